/- Merged: LSam LSamD. -/
import Derived.Deep.DeepCutAuto
import Derived.Test.YthaegncocdddfaaGreatDoorK15
import Derived.Test.YthaegncocdddfaaGreatDoorK33
/- The law's SameSels: of equal documents it says true. -/
namespace Go.Proofs.YthaegncocdddfaaGreatDoor
set_option linter.unusedVariables false
set_option linter.unusedSimpArgs false
set_option linter.unusedVariables false
set_option linter.unusedSimpArgs false
open Go.RowKit Go.Lib Go.Tt
theorem two_alloc (w : World) (a b : Obj) : ((w.alloc a).alloc b).drew.heap[w.heap.size]? = some a ∧ ((w.alloc a).alloc b).drew.heap[w.heap.size + 1]? = some b := by
  refine ⟨al_old (heap_alloc_new w a), ?_⟩
  have := heap_alloc_new (w.alloc a) b
  rw [World.size_alloc] at this
  exact this
def SmS (n : Nat) : Prop := ∀ {w : World} {F G : Nat → Prop} {v u : Value} {ss : List Sl}, RdSs w F v ss → RdSs w G u ss → nSs ss < n →
  Calls Tryz.prog 32 #[v, u] w fun e w' => e = .returned (.bool true) ∧ Frm No w w'
def selB (r : SelC) : Obj := .cells #[.bool r.sp, .string r.al, .string r.nm, .slice r.a.p r.a.n r.a.c, .slice r.i.p r.i.n r.i.c, .slice r.s.p r.s.n r.s.c] 51 (0, 0)
set_option maxHeartbeats 16000000 in
set_option maxRecDepth 100000 in
theorem sms_ok {n : Nat} (ih : SmS n) : SmS (n + 1) := by
  intro w F G v u ss hx hy hn
  obtain ⟨rs, hS, hA⟩ := hx
  obtain ⟨qs, hT, hB⟩ := hy
  obtain ⟨a1, c1, rfl⟩ := hS.1.sh
  obtain ⟨a2, c2, rfl⟩ := hT.1.sh
  have la := hA.len
  have lb := hB.len
  have hl1 : ss.length ≤ 9223372036854775807 := by
    have h1 := hS.1.facts
    unfold maxLen at h1
    omega
  have HS := Lib.hid hS
  have HT := Lib.hid hT
  have HA := Lib.hid hA
  have HB := Lib.hid hB
  have LA := Lib.hid la
  have LB := Lib.hid lb
  rw [la, lb]
  obtain ⟨R, hR⟩ : ∃ R : Ending → World → Prop, R = fun e w' => e = .returned (.bool true) ∧ Frm No w w' := ⟨_, rfl⟩
  rw [← hR]
  have HQ := Lib.hid hR
  have hnot : ∀ (x : Bool) (w : World), (Op.unary .not (.bool x)).run Tryz.prog w = .ok (.bool (!x)) w := fun _ _ => rfl
  clear hR hS hT hA hB la lb
  go_enter Tryz.func32, Tryz.ntmps32
  go_wp2_with (fail)
  go_loopg [5] (ss.length + 1) (fun g iv wr => ∃ i : Nat, iv = .int .i64 i ∧ g = ss.length - i + 1 ∧ i ≤ ss.length ∧ Frm No w wr)
  case atStart => exact ⟨0, rfl, rfl, Nat.zero_le _, Frm.refl _ _⟩
  case round =>
    obtain ⟨i, rfl, hg, hi, f⟩ := hrel
    have HG := Lib.hid hg
    clear hg
    by_cases hlt : i < ss.length
    · have hlt' : i < rs.length := by have := LA.out; omega
      have hlt2' : i < qs.length := by have := LB.out; omega
      obtain ⟨b1, o1, hao1, hb1, k1⟩ := HS.out.1.at hlt'
      obtain ⟨b2, o2, hao2, hb2, k2⟩ := HT.out.1.at hlt2'
      have hRd1 := HA.out.at i hlt hlt'
      have hRd2 := HB.out.at i hlt hlt2'
      have hns := Nat.le_trans (nS_le_at i hlt) (Nat.le_of_lt_succ hn)
      obtain ⟨x, hx⟩ : ∃ x, x = ss[i] := ⟨_, rfl⟩
      obtain ⟨r, hr⟩ : ∃ r, r = rs[i] := ⟨_, rfl⟩
      obtain ⟨q, hq⟩ : ∃ q, q = qs[i] := ⟨_, rfl⟩
      rw [← hr] at k1 hRd1
      rw [← hq] at k2 hRd2
      rw [← hx] at hRd1 hRd2 hns
      subst hao1 hao2
      obtain ⟨r0, r1, r2, ⟨rap, ran, rac⟩, ⟨rip, rin, ric⟩, ⟨rsp, rsn, rsc⟩⟩ := r
      obtain ⟨q0, q1, q2, ⟨qap, qan, qac⟩, ⟨qip, qin, qic⟩, ⟨qsp, qsn, qsc⟩⟩ := q
      obtain ⟨sp0, al0, nm0, args, ifs, sels⟩ := x
      unfold RdSel at hRd1 hRd2
      obtain ⟨⟨h0, h1, h2⟩, hA, hI, rl, hS, hAll⟩ := hRd1
      obtain ⟨⟨g0, g1, g2⟩, gA, gI, gl, gS, gAll⟩ := hRd2
      simp only at h0 h1 h2 hA hI hS g0 g1 g2 gA gI gS
      subst h0 h1 h2 g0 g1 g2
      have hSet : RdSs w F (.slice rsp rsn rsc) sels := ⟨rl, hS, hAll⟩
      have gSet : RdSs w G (.slice qsp qsn qsc) sels := ⟨gl, gS, gAll⟩
      have hns2 : nSs sels < n := by unfold nS at hns; omega
      have ea1 : ran = args.length := hA.1.facts.1
      have ea2 : qan = args.length := gA.1.facts.1
      have ei1 : rin = ifs.length := hI.1.facts.1
      have ei2 : qin = ifs.length := gI.1.facts.1
      subst ea1 ea2 ei1 ei2
      have hla : args.length ≤ 9223372036854775807 := by
        have h1 := hA.1.facts
        unfold maxLen at h1
        omega
      have hli : ifs.length ≤ 9223372036854775807 := by
        have h1 := hI.1.facts
        unfold maxLen at h1
        omega
      have m0 : wr.cell? ⟨b1, o1 + i * 6, none⟩ = some (.bool q0) := (f.cell (p := ⟨b1, o1 + i * 6, none⟩) hb1 id).trans (k1 0 _ rfl)
      have m1 : wr.cell? ⟨b1, o1 + i * 6 + 1, none⟩ = some (.string q1) := (f.cell (p := ⟨b1, o1 + i * 6 + 1, none⟩) hb1 id).trans (k1 1 _ rfl)
      have m2 : wr.cell? ⟨b1, o1 + i * 6 + 2, none⟩ = some (.string q2) := (f.cell (p := ⟨b1, o1 + i * 6 + 2, none⟩) hb1 id).trans (k1 2 _ rfl)
      have m3 : wr.cell? ⟨b1, o1 + i * 6 + 3, none⟩ = some (.slice rap args.length rac) := (f.cell (p := ⟨b1, o1 + i * 6 + 3, none⟩) hb1 id).trans (k1 3 _ rfl)
      have m4 : wr.cell? ⟨b1, o1 + i * 6 + 4, none⟩ = some (.slice rip ifs.length ric) := (f.cell (p := ⟨b1, o1 + i * 6 + 4, none⟩) hb1 id).trans (k1 4 _ rfl)
      have m5 : wr.cell? ⟨b1, o1 + i * 6 + 5, none⟩ = some (.slice rsp rsn rsc) := (f.cell (p := ⟨b1, o1 + i * 6 + 5, none⟩) hb1 id).trans (k1 5 _ rfl)
      have n0 : wr.cell? ⟨b2, o2 + i * 6, none⟩ = some (.bool q0) := (f.cell (p := ⟨b2, o2 + i * 6, none⟩) hb2 id).trans (k2 0 _ rfl)
      have n1 : wr.cell? ⟨b2, o2 + i * 6 + 1, none⟩ = some (.string q1) := (f.cell (p := ⟨b2, o2 + i * 6 + 1, none⟩) hb2 id).trans (k2 1 _ rfl)
      have n2 : wr.cell? ⟨b2, o2 + i * 6 + 2, none⟩ = some (.string q2) := (f.cell (p := ⟨b2, o2 + i * 6 + 2, none⟩) hb2 id).trans (k2 2 _ rfl)
      have n3 : wr.cell? ⟨b2, o2 + i * 6 + 3, none⟩ = some (.slice qap args.length qac) := (f.cell (p := ⟨b2, o2 + i * 6 + 3, none⟩) hb2 id).trans (k2 3 _ rfl)
      have n4 : wr.cell? ⟨b2, o2 + i * 6 + 4, none⟩ = some (.slice qip ifs.length qic) := (f.cell (p := ⟨b2, o2 + i * 6 + 4, none⟩) hb2 id).trans (k2 4 _ rfl)
      have n5 : wr.cell? ⟨b2, o2 + i * 6 + 5, none⟩ = some (.slice qsp qsn qsc) := (f.cell (p := ⟨b2, o2 + i * 6 + 5, none⟩) hb2 id).trans (k2 5 _ rfl)
      have hb1w : b1 < wr.heap.size := Nat.lt_of_lt_of_le hb1 f.size
      have hb2w : b2 < wr.heap.size := Nat.lt_of_lt_of_le hb2 f.size
      have HLT := Lib.hid hlt
      have HSA := Lib.hid hA.1
      have HSB := Lib.hid gA.1
      have HIA := Lib.hid hI.1
      have HIB := Lib.hid gI.1
      have HSS := Lib.hid hSet
      have HST := Lib.hid gSet
      clear k1 k2 hx hr hq hlt' hlt2' hA gA hI gI hS gS hAll gAll hSet gSet hns
      go_upto_region 6 with fail
      go_cut [6, 7] (fun s6 s7 wx => ∃ b6 b7 : Nat, s6 = .pointer (some ⟨b6, 0, none⟩) ∧ s7 = .pointer (some ⟨b7, 0, none⟩) ∧ wx.heap[b6]? = some (.cells #[.bool q0, .string q1, .string q2, .slice rap args.length rac, .slice rip ifs.length ric, .slice rsp rsn rsc] 51 (0, 0)) ∧ wx.heap[b7]? = some (.cells #[.bool q0, .string q1, .string q2, .slice qap args.length qac, .slice qip ifs.length qic, .slice qsp qsn qsc] 51 (0, 0)) ∧ Frm No w wx)
      case first =>
        refine wp_region_fork (.seg [0, 1, 2, 3, 4, 5, 6, 7] [] (.fork 8 [7, 3] (.seg [9] [7, 3] (.seg [10] [7] (.seg [11] [] .nil))) 9 [7, 3] (.seg [8] [7, 3] (.seg [10] [7] (.seg [11] [] .nil))))) 110 (by kernel_rfl) (by kernel_rfl) (by simp) ?_
        intro N hN
        simp only [wpST, wpSg, List.map_cons, List.map_nil, List.getD_cons_zero, List.getD_cons_succ]
        go_wp2_with (fail)
        refine ⟨?_, ?_⟩
        · go_wp2_with (fail)
          refine ⟨again_cons (again_of rfl rfl ?_) (again_cons (again_of rfl rfl ?_) again_nil), ?_⟩
          · go_simp
          · go_simp
          go_wp2_with (fail)
          refine ⟨again_cons (again_of rfl rfl ?_) (again_cons (again_of rfl rfl ?_) again_nil), ?_⟩
          · go_simp
          · go_simp
          go_wp2_with (fail)
          refine ⟨again_cons (again_of rfl rfl ?_) again_nil, ?_⟩
          · go_simp
          go_wp2_with (fail)
          go_meet
          exact ⟨_, _, rfl, rfl, (two_alloc wr _ _).1, (two_alloc wr _ _).2, ((f.al _).al _).trans (Frm.drew _ _)⟩
        · go_wp2_with (fail)
          refine ⟨again_cons (again_of rfl rfl ?_) (again_cons (again_of rfl rfl ?_) again_nil), ?_⟩
          · go_simp
          · go_simp
          go_wp2_with (fail)
          refine ⟨again_cons (again_of rfl rfl ?_) (again_cons (again_of rfl rfl ?_) again_nil), ?_⟩
          · go_simp
          · go_simp
          go_wp2_with (fail)
          refine ⟨again_cons (again_of rfl rfl ?_) again_nil, ?_⟩
          · go_simp
          go_wp2_with (fail)
          go_meet
          exact ⟨_, _, rfl, rfl, (two_alloc wr _ _).2, (two_alloc wr _ _).1, ((f.al _).al _).trans (Frm.drew _ _)⟩
      case rest =>
        obtain ⟨b6, b7, rfl, rfl, C6, C7, fx⟩ := hcut
        have p0 := obj_cell C6 0
        have p1 := obj_cell C6 1
        have p2 := obj_cell C6 2
        have p3 := obj_cell C6 3
        have p4 := obj_cell C6 4
        have p5 := obj_cell C6 5
        have r0 := obj_cell C7 0
        have r1 := obj_cell C7 1
        have r2 := obj_cell C7 2
        have r3 := obj_cell C7 3
        have r4 := obj_cell C7 4
        have r5 := obj_cell C7 5
        have h6 := lt_of_block C6
        have h7 := lt_of_block C7
        simp only [List.getElem?_toArray, List.getElem?_cons_succ, List.getElem?_cons_zero] at p0 p1 p2 p3 p4 p5 r0 r1 r2 r3 r4 r5
        have HC6 := Lib.hid C6
        have HC7 := Lib.hid C7
        clear C6 C7 f m0 m1 m2 m3 m4 m5 n0 n1 n2 n3 n4 n5 hb1w hb2w
        go_wp2_with (fail)
        refine (ih (HSS.out.frm fx fun _ _ _ h => h) (HST.out.frm fx fun _ _ _ h => h) hns2).mono ?_
        rintro e w3 ⟨rfl, f3⟩
        have C6 := f3.obj HC6.out id
        have C7 := f3.obj HC7.out id
        have F3 := fx.trans f3
        clear HC6 HC7 p0 p1 p2 p3 p4 p5 r0 r1 r2 r3 r4 r5 h6 h7 f3 fx
        have HC6 := Lib.hid C6
        have HC7 := Lib.hid C7
        clear C6 C7
        go_wp2_with (fail)
        go_loopg [8] (args.length + 1) (fun g iv wz => ∃ j : Nat, iv = .int .i64 j ∧ g = args.length - j + 1 ∧ j ≤ args.length ∧ Frm No w wz ∧ wz.heap[b6]? = some (.cells #[.bool q0, .string q1, .string q2, .slice rap args.length rac, .slice rip ifs.length ric, .slice rsp rsn rsc] 51 (0, 0)) ∧ wz.heap[b7]? = some (.cells #[.bool q0, .string q1, .string q2, .slice qap args.length qac, .slice qip ifs.length qic, .slice qsp qsn qsc] 51 (0, 0)))
        case atStart => exact ⟨0, rfl, rfl, Nat.zero_le _, F3, HC6.out, HC7.out⟩
        case round =>
          clear F3 HC6 HC7
          obtain ⟨j, rfl, hg, hj, fz, z6, z7⟩ := hrel
          have HJ := Lib.hid hg
          have HC6 := Lib.hid z6
          have HC7 := Lib.hid z7
          have p3 := obj_cell z6 3
          have r3 := obj_cell z7 3
          have h6 := lt_of_block z6
          have h7 := lt_of_block z7
          simp only [List.getElem?_toArray, List.getElem?_cons_succ, List.getElem?_cons_zero] at p3 r3
          clear hg z6 z7
          by_cases hjt : j < args.length
          · obtain ⟨d1, y1, hd1, hdb1, kk1⟩ := HSA.out.at hjt
            obtain ⟨d2, y2, hd2, hdb2, kk2⟩ := HSB.out.at hjt
            obtain ⟨ax, hax⟩ : ∃ ax, ax = args[j] := ⟨_, rfl⟩
            rw [← hax] at kk1 kk2
            have w0 := (fz.cell (p := ⟨d1, y1 + j * 4, none⟩) hdb1 id).trans (kk1 0 _ rfl)
            have w1 := (fz.cell (p := ⟨d1, y1 + j * 4 + 1, none⟩) hdb1 id).trans (kk1 1 _ rfl)
            have w2 := (fz.cell (p := ⟨d1, y1 + j * 4 + 2, none⟩) hdb1 id).trans (kk1 2 _ rfl)
            have w3 := (fz.cell (p := ⟨d1, y1 + j * 4 + 3, none⟩) hdb1 id).trans (kk1 3 _ rfl)
            have v0 := (fz.cell (p := ⟨d2, y2 + j * 4, none⟩) hdb2 id).trans (kk2 0 _ rfl)
            have v1 := (fz.cell (p := ⟨d2, y2 + j * 4 + 1, none⟩) hdb2 id).trans (kk2 1 _ rfl)
            have v2 := (fz.cell (p := ⟨d2, y2 + j * 4 + 2, none⟩) hdb2 id).trans (kk2 2 _ rfl)
            have v3 := (fz.cell (p := ⟨d2, y2 + j * 4 + 3, none⟩) hdb2 id).trans (kk2 3 _ rfl)
            have hne := fun W => neq_Ar ax ax W
            simp only [decide_true, Bool.not_true] at hne
            have HJT := Lib.hid hjt
            rw [hd1] at p3
            rw [hd2] at r3
            clear kk1 kk2 hax hd1 hd2
            go_wp2_with (fail)
            refine wp_region_plan [([0, 1, 2, 3, 4, 5, 6, 7, 8, 9, 10], [])] 110 (by kernel_rfl) (by kernel_rfl) (by simp) ?_
            intro N hN
            simp only [wpSegs, List.map_cons, List.map_nil, List.getD_cons_zero, List.getD_cons_succ]
            go_wp2_with (fail)
            go_roundg (args.length - (j + 1) + 1)
            case measure => have := HJ.out; have := HJT.out; omega
            case rel => exact ⟨j + 1, by go_num, rfl, HJT.out, fz.trans (Frm.drew _ _), HC6.out, HC7.out⟩
          · obtain rfl : j = args.length := by omega
            clear hjt hj
            go_wp2_with (fail)
            go_loopg [9] (ifs.length + 1) (fun g iv wz => ∃ j : Nat, iv = .int .i64 j ∧ g = ifs.length - j + 1 ∧ j ≤ ifs.length ∧ Frm No w wz ∧ wz.heap[b6]? = some (.cells #[.bool q0, .string q1, .string q2, .slice rap args.length rac, .slice rip ifs.length ric, .slice rsp rsn rsc] 51 (0, 0)) ∧ wz.heap[b7]? = some (.cells #[.bool q0, .string q1, .string q2, .slice qap args.length qac, .slice qip ifs.length qic, .slice qsp qsn qsc] 51 (0, 0)))
            case atStart => exact ⟨0, rfl, rfl, Nat.zero_le _, fz, HC6.out, HC7.out⟩
            case round =>
              clear fz HC6 HC7 p3 r3 h6 h7
              obtain ⟨j, rfl, hg, hj, fz, z6, z7⟩ := hrel
              have HJ := Lib.hid hg
              have HC6 := Lib.hid z6
              have HC7 := Lib.hid z7
              have p4 := obj_cell z6 4
              have r4 := obj_cell z7 4
              have h6 := lt_of_block z6
              have h7 := lt_of_block z7
              simp only [List.getElem?_toArray, List.getElem?_cons_succ, List.getElem?_cons_zero] at p4 r4
              clear hg z6 z7
              by_cases hjt : j < ifs.length
              · obtain ⟨d1, y1, hd1, hdb1, kk1⟩ := HIA.out.at hjt
                obtain ⟨d2, y2, hd2, hdb2, kk2⟩ := HIB.out.at hjt
                obtain ⟨ax, hax⟩ : ∃ ax, ax = ifs[j] := ⟨_, rfl⟩
                rw [← hax] at kk1 kk2
                have w0 := (fz.cell (p := ⟨d1, y1 + j * 4, none⟩) hdb1 id).trans (kk1 0 _ rfl)
                have w1 := (fz.cell (p := ⟨d1, y1 + j * 4 + 1, none⟩) hdb1 id).trans (kk1 1 _ rfl)
                have w2 := (fz.cell (p := ⟨d1, y1 + j * 4 + 2, none⟩) hdb1 id).trans (kk1 2 _ rfl)
                have w3 := (fz.cell (p := ⟨d1, y1 + j * 4 + 3, none⟩) hdb1 id).trans (kk1 3 _ rfl)
                have v0 := (fz.cell (p := ⟨d2, y2 + j * 4, none⟩) hdb2 id).trans (kk2 0 _ rfl)
                have v1 := (fz.cell (p := ⟨d2, y2 + j * 4 + 1, none⟩) hdb2 id).trans (kk2 1 _ rfl)
                have v2 := (fz.cell (p := ⟨d2, y2 + j * 4 + 2, none⟩) hdb2 id).trans (kk2 2 _ rfl)
                have v3 := (fz.cell (p := ⟨d2, y2 + j * 4 + 3, none⟩) hdb2 id).trans (kk2 3 _ rfl)
                have hne := fun W => neq_Fi ax ax W
                simp only [decide_true, Bool.not_true] at hne
                have HJT := Lib.hid hjt
                rw [hd1] at p4
                rw [hd2] at r4
                clear kk1 kk2 hax hd1 hd2
                go_wp2_with (fail)
                refine wp_region_plan [([0, 1, 2, 3, 4, 5, 6, 7, 8, 9, 10], [])] 110 (by kernel_rfl) (by kernel_rfl) (by simp) ?_
                intro N hN
                simp only [wpSegs, List.map_cons, List.map_nil, List.getD_cons_zero, List.getD_cons_succ]
                go_wp2_with (fail)
                go_roundg (ifs.length - (j + 1) + 1)
                case measure => have := HJ.out; have := HJT.out; omega
                case rel => exact ⟨j + 1, by go_num, rfl, HJT.out, fz.trans (Frm.drew _ _), HC6.out, HC7.out⟩
              · obtain rfl : j = ifs.length := by omega
                clear hjt hj
                go_wp2_with (fail)
                go_roundg (ss.length - (i + 1) + 1)
                case measure => have := HG.out; have := HLT.out; omega
                case rel => exact ⟨i + 1, by go_num, rfl, HLT.out, fz⟩
    · obtain rfl : i = ss.length := by omega
      clear hlt hi
      go_wp2_with (fail)
      rw [HQ.out]
      exact ⟨rfl, f⟩
theorem sms_all : ∀ n, SmS n
  | 0 => fun _ _ h => absurd h (Nat.not_lt_zero _)
  | n + 1 => sms_ok (sms_all n)
end Go.Proofs.YthaegncocdddfaaGreatDoor

/- The law's SameDoc: of equal documents it says true. -/
namespace Go.Proofs.YthaegncocdddfaaGreatDoor
set_option linter.unusedVariables false
set_option linter.unusedSimpArgs false
open Go.RowKit Go.Lib Go.Tt
set_option maxHeartbeats 16000000 in
set_option maxRecDepth 100000 in
theorem sameDoc_ok {w : World} {F G : Nat → Prop} {v u : DocC} {d : Dm} (hx : RdDoc w F v d) (hy : RdDoc w G u d) :
    Calls Tryz.prog 14 #[dval v, dval u] w fun e w' => e = .returned (.bool true) ∧ Frm No w w' := by
  obtain ⟨vm, ⟨dp, dn, dc⟩, ⟨sp1, sn, sc⟩, ⟨fp, fn, fc⟩⟩ := v
  obtain ⟨um, ⟨ep, en, ec⟩, ⟨tp1, tn, tc⟩, ⟨gp, gn, gc⟩⟩ := u
  obtain ⟨h0, hD, hS, rs, hF, hFs⟩ := hx
  obtain ⟨g0, gD, gS, qs, gF, gFs⟩ := hy
  obtain ⟨mu, ds, ss, fs⟩ := d
  simp only at h0 hD hS hF hFs g0 gD gS gF gFs
  subst h0
  subst g0
  have n1 : dn = ds.length := hD.1.facts.1
  have n2 : en = ds.length := gD.1.facts.1
  have n3 : fn = fs.length := hF.1.facts.1.trans hFs.len
  have n4 : gn = fs.length := gF.1.facts.1.trans gFs.len
  subst n1 n2 n3 n4
  have hl1 : ds.length ≤ 9223372036854775807 := by
    have h1 := hD.1.facts
    unfold maxLen at h1
    omega
  have hl2 : fs.length ≤ 9223372036854775807 := by
    have h1 := hF.1.facts
    unfold maxLen at h1
    omega
  unfold dval
  simp only
  have LA := Lib.hid hFs.len
  have LB := Lib.hid gFs.len
  rw [← hFs.len] at hF
  rw [← gFs.len] at gF
  have HD := Lib.hid hD.1
  have GD := Lib.hid gD.1
  have HS := Lib.hid hS
  have GS := Lib.hid gS
  have HF := Lib.hid hF
  have GF := Lib.hid gF
  have HFs := Lib.hid hFs
  have GFs := Lib.hid gFs
  clear hD gD hS gS hF gF hFs gFs
  obtain ⟨R, hR⟩ : ∃ R : Ending → World → Prop, R = fun e w' => e = .returned (.bool true) ∧ Frm No w w' := ⟨_, rfl⟩
  rw [← hR]
  have HQ := Lib.hid hR
  have hnot : ∀ (x : Bool) (w : World), (Op.unary .not (.bool x)).run Tryz.prog w = .ok (.bool (!x)) w := fun _ _ => rfl
  clear hR
  have F2 : Frm No w ((w.alloc (.cells #[.bool um, .slice dp ds.length dc, .slice sp1 sn sc, .slice fp fs.length fc] 26)).alloc (.cells #[.bool um, .slice ep ds.length ec, .slice tp1 tn tc, .slice gp fs.length gc] 26)) := ((Frm.refl No w).al _).al _
  have C6 := (two_alloc w (.cells #[.bool um, .slice dp ds.length dc, .slice sp1 sn sc, .slice fp fs.length fc] 26) (.cells #[.bool um, .slice ep ds.length ec, .slice tp1 tn tc, .slice gp fs.length gc] 26)).1
  have C7 := (two_alloc w (.cells #[.bool um, .slice dp ds.length dc, .slice sp1 sn sc, .slice fp fs.length fc] 26) (.cells #[.bool um, .slice ep ds.length ec, .slice tp1 tn tc, .slice gp fs.length gc] 26)).2
  have HC6 := Lib.hid (show ((w.alloc (.cells #[.bool um, .slice dp ds.length dc, .slice sp1 sn sc, .slice fp fs.length fc] 26)).alloc (.cells #[.bool um, .slice ep ds.length ec, .slice tp1 tn tc, .slice gp fs.length gc] 26)).heap[w.heap.size]? = _ from C6)
  have HC7 := Lib.hid (show ((w.alloc (.cells #[.bool um, .slice dp ds.length dc, .slice sp1 sn sc, .slice fp fs.length fc] 26)).alloc (.cells #[.bool um, .slice ep ds.length ec, .slice tp1 tn tc, .slice gp fs.length gc] 26)).heap[w.heap.size + 1]? = _ from C7)
  have HF2 := Lib.hid F2
  clear F2 C6 C7
  go_enter Tryz.func14, Tryz.ntmps14
  go_wp2_with (fail)
  refine (sms_all (nSs ss + 1) (HS.out.frm HF2.out fun _ _ _ h => h) (GS.out.frm HF2.out fun _ _ _ h => h) (Nat.lt_succ_self _)).mono ?_
  rintro e w3 ⟨rfl, f3⟩
  have C6 := f3.obj HC6.out id
  have C7 := f3.obj HC7.out id
  have F3 := HF2.out.trans f3
  clear HC6 HC7 HF2 f3
  have HC6 := Lib.hid C6
  have HC7 := Lib.hid C7
  clear C6 C7
  go_wp2_with (fail)
  go_loopg [5] (ds.length + 1) (fun g iv wz => ∃ j : Nat, iv = .int .i64 j ∧ g = ds.length - j + 1 ∧ j ≤ ds.length ∧ Frm No w wz ∧ wz.heap[w.heap.size]? = some (.cells #[.bool um, .slice dp ds.length dc, .slice sp1 sn sc, .slice fp fs.length fc] 26 (0, 0)) ∧ wz.heap[w.heap.size + 1]? = some (.cells #[.bool um, .slice ep ds.length ec, .slice tp1 tn tc, .slice gp fs.length gc] 26 (0, 0)))
  case atStart => exact ⟨0, rfl, rfl, Nat.zero_le _, F3, HC6.out, HC7.out⟩
  case round =>
    clear F3 HC6 HC7
    obtain ⟨j, rfl, hg, hj, fz, z6, z7⟩ := hrel
    have HJ := Lib.hid hg
    have HC6 := Lib.hid z6
    have HC7 := Lib.hid z7
    have p1 := obj_cell z6 1
    have r1 := obj_cell z7 1
    have h6 := lt_of_block z6
    have h7 := lt_of_block z7
    simp only [List.getElem?_toArray, List.getElem?_cons_succ, List.getElem?_cons_zero] at p1 r1
    clear hg z6 z7
    by_cases hjt : j < ds.length
    · obtain ⟨d1, y1, hd1, hdb1, kk1⟩ := HD.out.at hjt
      obtain ⟨d2, y2, hd2, hdb2, kk2⟩ := GD.out.at hjt
      obtain ⟨ax, hax⟩ : ∃ ax, ax = ds[j] := ⟨_, rfl⟩
      rw [← hax] at kk1 kk2
      have w0 := (fz.cell (p := ⟨d1, y1 + j * 2, none⟩) hdb1 id).trans (kk1 0 _ rfl)
      have w1 := (fz.cell (p := ⟨d1, y1 + j * 2 + 1, none⟩) hdb1 id).trans (kk1 1 _ rfl)
      have v0 := (fz.cell (p := ⟨d2, y2 + j * 2, none⟩) hdb2 id).trans (kk2 0 _ rfl)
      have v1 := (fz.cell (p := ⟨d2, y2 + j * 2 + 1, none⟩) hdb2 id).trans (kk2 1 _ rfl)
      have hne := fun W => neq_Dc ax ax W
      simp only [decide_true, Bool.not_true] at hne
      have HJT := Lib.hid hjt
      rw [hd1] at p1
      rw [hd2] at r1
      clear kk1 kk2 hax hd1 hd2
      go_wp2_with (fail)
      refine wp_region_plan [([0, 1, 2, 3, 4, 5, 6, 7, 8, 9, 10], [])] 107 (by kernel_rfl) (by kernel_rfl) (by simp) ?_
      intro N hN
      simp only [wpSegs, List.map_cons, List.map_nil, List.getD_cons_zero, List.getD_cons_succ]
      go_wp2_with (fail)
      go_roundg (ds.length - (j + 1) + 1)
      case measure => have := HJ.out; have := HJT.out; omega
      case rel => exact ⟨j + 1, by go_num, rfl, HJT.out, fz.trans (Frm.drew _ _), HC6.out, HC7.out⟩
    · obtain rfl : j = ds.length := by omega
      clear hjt hj p1 r1 h6 h7 HJ
      have p1 := obj_cell HC6.out 1
      have r1 := obj_cell HC7.out 1
      simp only [List.getElem?_toArray, List.getElem?_cons_succ, List.getElem?_cons_zero] at p1 r1
      have h6 := lt_of_block HC6.out
      have h7 := lt_of_block HC7.out
      go_wp2_with (fail)
      go_loopg [6] (fs.length + 1) (fun g iv wz => ∃ j : Nat, iv = .int .i64 j ∧ g = fs.length - j + 1 ∧ j ≤ fs.length ∧ Frm No w wz ∧ wz.heap[w.heap.size]? = some (.cells #[.bool um, .slice dp ds.length dc, .slice sp1 sn sc, .slice fp fs.length fc] 26 (0, 0)) ∧ wz.heap[w.heap.size + 1]? = some (.cells #[.bool um, .slice ep ds.length ec, .slice tp1 tn tc, .slice gp fs.length gc] 26 (0, 0)))
      case atStart => exact ⟨0, rfl, rfl, Nat.zero_le _, fz, HC6.out, HC7.out⟩
      case round =>
        clear fz HC6 HC7 p1 r1 h6 h7
        obtain ⟨j, rfl, hg, hj, fz, z6, z7⟩ := hrel
        have HJ := Lib.hid hg
        have HC6 := Lib.hid z6
        have HC7 := Lib.hid z7
        have p3 := obj_cell z6 3
        have r3 := obj_cell z7 3
        have h6 := lt_of_block z6
        have h7 := lt_of_block z7
        simp only [List.getElem?_toArray, List.getElem?_cons_succ, List.getElem?_cons_zero] at p3 r3
        clear hg z6 z7
        by_cases hjt : j < fs.length
        · have hjr : j < rs.length := by have := LA.out; omega
          have hjq : j < qs.length := by have := LB.out; omega
          obtain ⟨d1, y1, hd1, hdb1, kk1⟩ := HF.out.1.at hjr
          obtain ⟨d2, y2, hd2, hdb2, kk2⟩ := GF.out.1.at hjq
          obtain ⟨⟨z1, z2⟩, hR1⟩ := HFs.out.at j hjt hjr
          obtain ⟨⟨x1, x2⟩, hR2⟩ := GFs.out.at j hjt hjq
          obtain ⟨fx, hfx⟩ : ∃ fx, fx = fs[j] := ⟨_, rfl⟩
          obtain ⟨r, hr⟩ : ∃ r, r = rs[j] := ⟨_, rfl⟩
          obtain ⟨q, hq⟩ : ∃ q, q = qs[j] := ⟨_, rfl⟩
          rw [← hfx] at z1 z2 x1 x2 hR1 hR2
          rw [← hr] at kk1 z1 z2 hR1
          rw [← hq] at kk2 x1 x2 hR2
          have w0 : wr.cell? ⟨d1, y1 + j * 3, none⟩ = some (.string fx.name) := (fz.cell (p := ⟨d1, y1 + j * 3, none⟩) hdb1 id).trans ((kk1 0 _ rfl).trans (by rw [z1]))
          have w1 : wr.cell? ⟨d1, y1 + j * 3 + 1, none⟩ = some (.string fx.on) := (fz.cell (p := ⟨d1, y1 + j * 3 + 1, none⟩) hdb1 id).trans ((kk1 1 _ rfl).trans (by rw [z2]))
          have w2 := (fz.cell (p := ⟨d1, y1 + j * 3 + 2, none⟩) hdb1 id).trans (kk1 2 _ rfl)
          have v0 : wr.cell? ⟨d2, y2 + j * 3, none⟩ = some (.string fx.name) := (fz.cell (p := ⟨d2, y2 + j * 3, none⟩) hdb2 id).trans ((kk2 0 _ rfl).trans (by rw [x1]))
          have v1 : wr.cell? ⟨d2, y2 + j * 3 + 1, none⟩ = some (.string fx.on) := (fz.cell (p := ⟨d2, y2 + j * 3 + 1, none⟩) hdb2 id).trans ((kk2 1 _ rfl).trans (by rw [x2]))
          have v2 := (fz.cell (p := ⟨d2, y2 + j * 3 + 2, none⟩) hdb2 id).trans (kk2 2 _ rfl)
          have HJT := Lib.hid hjt
          rw [hd1] at p3
          rw [hd2] at r3
          have fd : Frm No w wr.drew := fz.trans (Frm.drew _ _)
          have HSC := sms_all (nSs fx.sels + 1) (w := wr.drew) (hR1.frm fd fun _ _ _ h => h) (hR2.frm fd fun _ _ _ h => h) (Nat.lt_succ_self _)
          clear kk1 kk2 hfx hd1 hd2 hr hq hjr hjq z1 z2 x1 x2 hR1 hR2
          go_wp2_with (fail)
          refine wp_region_plan [([0, 1, 2, 3, 4, 5, 6, 7, 8, 9, 10, 11, 12, 13, 14, 15, 16, 17, 18, 19, 20, 21, 22, 23, 24, 25, 26, 27, 28, 29, 30, 31, 32, 33, 34, 35, 36, 37, 38, 39, 40, 41, 42, 43], [])] 107 (by kernel_rfl) (by kernel_rfl) (by simp) ?_
          intro N hN
          simp only [wpSegs, List.map_cons, List.map_nil, List.getD_cons_zero, List.getD_cons_succ]
          go_wp2_with (fail)
          refine HSC.mono ?_
          rintro e w4 ⟨rfl, f4⟩
          have C6 := f4.obj (show wr.drew.heap[w.heap.size]? = _ from HC6.out) id
          have C7 := f4.obj (show wr.drew.heap[w.heap.size + 1]? = _ from HC7.out) id
          have HX6 := Lib.hid C6
          have HX7 := Lib.hid C7
          clear C6 C7 HSC
          go_wp2_with (fail)
          go_roundg (fs.length - (j + 1) + 1)
          case measure => have := HJ.out; have := HJT.out; omega
          case rel => exact ⟨j + 1, by go_num, rfl, HJT.out, fd.trans f4, HX6.out, HX7.out⟩
        · obtain rfl : j = fs.length := by omega
          clear hjt hj
          go_wp2_with (fail)
          rw [HQ.out]
          exact ⟨rfl, fz⟩
end Go.Proofs.YthaegncocdddfaaGreatDoor

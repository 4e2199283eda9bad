/- Merged: RefIns1. -/
import Derived.Test.YtgpdpalhkkjmiaaGreatDoorV09
import Derived.Test.YtgpdpalhkkjmiaaGreatDoorV28
/- The reference's Insert. -/
namespace Go.Proofs.YtgpdpalhkkjmiaaGreatDoor
set_option linter.unusedVariables false
set_option linter.unusedSimpArgs false
set_option linter.unusedVariables false
set_option linter.unusedSimpArgs false
open Go.RowKit Go.Lib Go.Tt Go.Shelf
set_option maxHeartbeats 8000000 in
set_option maxRecDepth 100000 in
theorem refInsert1 {w : World} {c : CellV} {ve vl vs : Value} (h : CellR w c ve vl vs) (hb : CellB c) (hk : c.kind = 3) {d : Dt} (hd : dotMay d = true) {t : Int} (ht : timeMay t = true) {v : ByteArray} (hv : v.size ≤ 256) (ref : Dt) (hrc : ¬ ref.1 = 0) :
    Calls Tryz.prog 40 #[cval c ve vl vs, .agg #[.int .i64 d.1, .int .i64 d.2, .int .i64 t, .string v, .bool false], .agg #[.int .i64 ref.1, .int .i64 ref.2]] w (CP (insF c (d.1, d.2, t, v, false) ref).1 (insF c (d.1, d.2, t, v, false) ref).2 w) := by
  obtain ⟨r1, r2⟩ := ref
  have h0 : ¬ r1 = 0 := hrc
  clear hrc
  obtain ⟨he, hl, hs⟩ := h
  have HR := Lib.hid (⟨he, hl, hs⟩ : CellR w c ve vl vs)
  obtain ⟨ae, ce, rfl⟩ := he.sh
  obtain ⟨al, cl, rfl⟩ := hl.sh
  obtain ⟨at_, cs, rfl⟩ := hs.sh
  have hcv : ∀ e l s, cval c e l s = .agg #[.int .i64 3, .bool c.set, .int .i64 c.st.1, .int .i64 c.st.2, .string c.value, .int .i64 c.num.1, .int .i64 c.num.2, e, l, s] := by intro e l s; unfold cval; rw [hk]
  rw [hcv]
  have HV := Lib.hid hcv
  have HK := Lib.hid hk
  have HB := Lib.hid hb
  have hroom : (c.elems.length + 1) * 48 ≤ 140737488355328 := by have h1 := hb.l; unfold reachBytes at h1; omega
  have hcap : c.elems.length ≤ cl := hl.facts.2.1
  have hcm := hl.facts.2.2.1
  unfold maxLen at hcm
  have HM := Lib.hid (fun W => refDotMay16 d W)
  rw [hd] at HM
  have htt := of_decide_eq_true ht
  have ht1 : ¬ t < 1 := by omega
  have ht2 : ¬ (16777215 : Int) < t := by omega
  have hv' : ¬ ((256 : Int) < v.size) := by omega
  have F0 : Frm No w ((((w.alloc (.cells #[.int .i64 3, .bool c.set, .int .i64 c.st.1, .int .i64 c.st.2, .string c.value, .int .i64 c.num.1, .int .i64 c.num.2, .slice ae c.ents.length ce, .slice al c.elems.length cl, .slice at_ c.seen.length cs] 75 (0, 0))).alloc (.cells #[.int .i64 d.1, .int .i64 d.2, .int .i64 t, .string v, .bool false] 91 (0, 0))).alloc (.cells #[.int .i64 r1, .int .i64 r2] 83 (0, 0))).alloc (.cells #[.int .i64 0, .bool false, .int .i64 0, .int .i64 0, .string ⟨#[]⟩, .int .i64 0, .int .i64 0, .slice none 0 0, .slice none 0 0, .slice none 0 0] 75 (0, 0))) := ((((Frm.refl No w).al _).al _).al _).al _
  have B0 : ((((w.alloc (.cells #[.int .i64 3, .bool c.set, .int .i64 c.st.1, .int .i64 c.st.2, .string c.value, .int .i64 c.num.1, .int .i64 c.num.2, .slice ae c.ents.length ce, .slice al c.elems.length cl, .slice at_ c.seen.length cs] 75 (0, 0))).alloc (.cells #[.int .i64 d.1, .int .i64 d.2, .int .i64 t, .string v, .bool false] 91 (0, 0))).alloc (.cells #[.int .i64 r1, .int .i64 r2] 83 (0, 0))).alloc (.cells #[.int .i64 0, .bool false, .int .i64 0, .int .i64 0, .string ⟨#[]⟩, .int .i64 0, .int .i64 0, .slice none 0 0, .slice none 0 0, .slice none 0 0] 75 (0, 0))).heap[w.heap.size]? = some (.cells #[.int .i64 3, .bool c.set, .int .i64 c.st.1, .int .i64 c.st.2, .string c.value, .int .i64 c.num.1, .int .i64 c.num.2, .slice ae c.ents.length ce, .slice al c.elems.length cl, .slice at_ c.seen.length cs] 75 (0, 0)) := al_old (al_old (al_old (heap_alloc_new w _)))
  have E0 : ((((w.alloc (.cells #[.int .i64 3, .bool c.set, .int .i64 c.st.1, .int .i64 c.st.2, .string c.value, .int .i64 c.num.1, .int .i64 c.num.2, .slice ae c.ents.length ce, .slice al c.elems.length cl, .slice at_ c.seen.length cs] 75 (0, 0))).alloc (.cells #[.int .i64 d.1, .int .i64 d.2, .int .i64 t, .string v, .bool false] 91 (0, 0))).alloc (.cells #[.int .i64 r1, .int .i64 r2] 83 (0, 0))).alloc (.cells #[.int .i64 0, .bool false, .int .i64 0, .int .i64 0, .string ⟨#[]⟩, .int .i64 0, .int .i64 0, .slice none 0 0, .slice none 0 0, .slice none 0 0] 75 (0, 0))).heap[w.heap.size + 1]? = some (.cells #[.int .i64 d.1, .int .i64 d.2, .int .i64 t, .string v, .bool false] 91 (0, 0)) := al_old (al_old (al_at (by simp)))
  have D0 : ((((w.alloc (.cells #[.int .i64 3, .bool c.set, .int .i64 c.st.1, .int .i64 c.st.2, .string c.value, .int .i64 c.num.1, .int .i64 c.num.2, .slice ae c.ents.length ce, .slice al c.elems.length cl, .slice at_ c.seen.length cs] 75 (0, 0))).alloc (.cells #[.int .i64 d.1, .int .i64 d.2, .int .i64 t, .string v, .bool false] 91 (0, 0))).alloc (.cells #[.int .i64 r1, .int .i64 r2] 83 (0, 0))).alloc (.cells #[.int .i64 0, .bool false, .int .i64 0, .int .i64 0, .string ⟨#[]⟩, .int .i64 0, .int .i64 0, .slice none 0 0, .slice none 0 0, .slice none 0 0] 75 (0, 0))).heap[w.heap.size + 2]? = some (.cells #[.int .i64 r1, .int .i64 r2] 83 (0, 0)) := al_old (al_at (by simp))
  have C0 : ((((w.alloc (.cells #[.int .i64 3, .bool c.set, .int .i64 c.st.1, .int .i64 c.st.2, .string c.value, .int .i64 c.num.1, .int .i64 c.num.2, .slice ae c.ents.length ce, .slice al c.elems.length cl, .slice at_ c.seen.length cs] 75 (0, 0))).alloc (.cells #[.int .i64 d.1, .int .i64 d.2, .int .i64 t, .string v, .bool false] 91 (0, 0))).alloc (.cells #[.int .i64 r1, .int .i64 r2] 83 (0, 0))).alloc (.cells #[.int .i64 0, .bool false, .int .i64 0, .int .i64 0, .string ⟨#[]⟩, .int .i64 0, .int .i64 0, .slice none 0 0, .slice none 0 0, .slice none 0 0] 75 (0, 0))).heap[w.heap.size + 3]? = some (.cells #[.int .i64 0, .bool false, .int .i64 0, .int .i64 0, .string ⟨#[]⟩, .int .i64 0, .int .i64 0, .slice none 0 0, .slice none 0 0, .slice none 0 0] 75 (0, 0)) := al_at (by simp)
  clear he hl hs hb hk hcv hd ht htt hv
  go_enter Tryz.func40, Tryz.ntmps40
  go_wp2_with (fail)
  revert F0 B0 E0 D0 C0
  generalize ((((w.alloc (.cells #[.int .i64 3, .bool c.set, .int .i64 c.st.1, .int .i64 c.st.2, .string c.value, .int .i64 c.num.1, .int .i64 c.num.2, .slice ae c.ents.length ce, .slice al c.elems.length cl, .slice at_ c.seen.length cs] 75 (0, 0))).alloc (.cells #[.int .i64 d.1, .int .i64 d.2, .int .i64 t, .string v, .bool false] 91 (0, 0))).alloc (.cells #[.int .i64 r1, .int .i64 r2] 83 (0, 0))).alloc (.cells #[.int .i64 0, .bool false, .int .i64 0, .int .i64 0, .string ⟨#[]⟩, .int .i64 0, .int .i64 0, .slice none 0 0, .slice none 0 0, .slice none 0 0] 75 (0, 0))) = X0
  intro F0 B0 E0 D0 C0
  refine (HM.out _).mono ?_
  rintro e w1 ⟨rfl, f1⟩
  have F1 := F0.trans f1
  have B1 := f1.obj B0 id
  have E1 := f1.obj E0 id
  have D1 := f1.obj D0 id
  have C1 := f1.obj C0 id
  clear F0 B0 E0 D0 C0 f1 HM
  obtain ⟨p0, p1, p2, p3, p4, p5, p6, p7, p8, p9⟩ := obj10 B1
  have x0 := obj_cell E1 0
  have x1 := obj_cell E1 1
  have x2 := obj_cell E1 2
  have x3 := obj_cell E1 3
  have x4 := obj_cell E1 4
  simp at x0 x1 x2 x3 x4
  have y0 := obj_cell D1 0
  have y1 := obj_cell D1 1
  simp at y0 y1
  have lC1 := lt_of_block C1
  have hfl := findEl_lt c.elems d
  obtain ⟨u, hu⟩ : ∃ u, Hid (u = findEl c.elems d) := ⟨_, Lib.hid rfl⟩
  have HP := refPlace_ok (HR.out.no F1) d
  rw [HV.out, ← hu.out] at HP
  rw [← hu.out] at hfl
  have HP := Lib.hid HP
  go_wp2_with (fail)
  refine HP.out.mono ?_
  rintro e w2 ⟨rfl, f2⟩
  have F2 := F1.trans f2
  have B2 := f2.obj B1 id
  have E2 := f2.obj E1 id
  have D2 := f2.obj D1 id
  have C2 := f2.obj C1 id
  clear F1 B1 E1 D1 C1 f2 HP lC1 p0 p1 p2 p3 p4 p5 p6 p7 p8 p9 x0 x1 x2 x3 x4 y0 y1
  obtain ⟨p0, p1, p2, p3, p4, p5, p6, p7, p8, p9⟩ := obj10 B2
  have x0 := obj_cell E2 0
  have x1 := obj_cell E2 1
  have x2 := obj_cell E2 2
  have x3 := obj_cell E2 3
  have x4 := obj_cell E2 4
  simp at x0 x1 x2 x3 x4
  have y0 := obj_cell D2 0
  have y1 := obj_cell D2 1
  simp at y0 y1
  have lC2 := lt_of_block C2
  have lE2 := lt_of_block E2
  by_cases hu0 : 0 ≤ u
  · have HX : Hid (insF c (d.1, d.2, t, v, false) (r1, r2) = (zeroC, 1000)) := Lib.hid (if_pos (by rw [← hu.out]; exact hu0))
    go_wp2_with (refine wpList_sto _ rfl (.tmp 6) (.tmp 47) 75 rfl C2 (by kernel_rfl) (by rfl) zone rfl rfl ?_)
    intro w7 C7 f7 z7
    obtain ⟨s0, s1, s2, s3, s4, s5, s6, s7, s8, s9⟩ := obj10 C7
    clear p0 p1 p2 p3 p4 p5 p6 p7 p8 p9 x0 x1 x2 x3 x4 y0 y1
    go_wp2
    refine bodyPost_ret (v := .tuple #[zval, .int .i64 1000]) (by simp [results, Tryz.results40, go_sem, zval, *]) rfl ?_
    rw [HX.out]
    exact zval_cp ⟨rfl, F2.then f7 fun k hk e => by omega⟩
  have HNE : Hid (findEl c.elems d < 0) := Lib.hid (by rw [← hu.out]; omega)
  have hne : Hid (¬ (r1, r2) = ((0, 0) : Dt)) := Lib.hid fun e => h0 (Prod.ext_iff.1 e).1
  have hfr := findEl_lt c.elems (r1, r2)
  obtain ⟨z, hz⟩ : ∃ z, Hid (z = findEl c.elems (r1, r2)) := ⟨_, Lib.hid rfl⟩
  have HP := refPlace_ok (HR.out.no F2) (r1, r2)
  rw [HV.out, ← hz.out] at HP
  rw [← hz.out] at hfr
  have HP := Lib.hid HP
  go_wp2_with (fail)
  refine HP.out.mono ?_
  rintro e w2b ⟨rfl, f2⟩
  replace F2 := F2.trans f2
  replace B2 := f2.obj B2 id
  replace E2 := f2.obj E2 id
  replace D2 := f2.obj D2 id
  replace C2 := f2.obj C2 id
  clear f2 HP lC2 lE2 p0 p1 p2 p3 p4 p5 p6 p7 p8 p9 x0 x1 x2 x3 x4 y0 y1
  revert F2 B2 E2 D2 C2
  generalize w2b = w2
  intro F2 B2 E2 D2 C2
  obtain ⟨p0, p1, p2, p3, p4, p5, p6, p7, p8, p9⟩ := obj10 B2
  have x0 := obj_cell E2 0
  have x1 := obj_cell E2 1
  have x2 := obj_cell E2 2
  have x3 := obj_cell E2 3
  have x4 := obj_cell E2 4
  simp at x0 x1 x2 x3 x4
  have y0 := obj_cell D2 0
  have y1 := obj_cell D2 1
  simp at y0 y1
  have lC2 := lt_of_block C2
  have lE2 := lt_of_block E2
  by_cases hz0 : z < 0
  · obtain rfl : z = -1 := by omega
    have HX : Hid (insF c (d.1, d.2, t, v, false) (r1, r2) = (zeroC, 1001)) := Lib.hid (by
      unfold insF placeOf
      rw [if_neg (Int.not_le.2 HNE.out), if_neg hne.out, if_pos (by rw [← hz.out]; decide)])
    go_wp2_with (refine wpList_sto _ rfl (.tmp 6) (.tmp 57) 75 rfl C2 (by kernel_rfl) (by rfl) zone rfl rfl ?_)
    intro w7 C7 f7 z7
    obtain ⟨s0, s1, s2, s3, s4, s5, s6, s7, s8, s9⟩ := obj10 C7
    clear p0 p1 p2 p3 p4 p5 p6 p7 p8 p9 x0 x1 x2 x3 x4 y0 y1
    go_wp2
    refine bodyPost_ret (v := .tuple #[zval, .int .i64 1001]) (by simp [results, Tryz.results40, go_sem, zval, *]) rfl ?_
    rw [HX.out]
    exact zval_cp ⟨rfl, F2.then f7 fun k hk e => by omega⟩
  · obtain ⟨m, hm⟩ : ∃ m : Nat, z = m := ⟨z.toNat, by omega⟩
    subst hm
    have HS0 : Hid (Rel c.elems (t, d.1) (r1, r2) (m + 1)) := Lib.hid ⟨m + 1, by
      unfold startOf
      rw [if_neg hne.out, ← hz.out, if_neg hz0]
      rfl, Nat.le_refl _, by omega, fun j hj h1 h2 => absurd h1 (by omega)⟩
    have hm1 : ¬ ((m : Int) + 1 = 0) := by omega
    go_wp2_with (fail)
    have hz2 := lt_of_block C2
    replace F2 := F2.al (.cells #[.int .i64 t, .int .i64 d.1] 71 (0, 0))
    have T2 := heap_alloc_new w2 (.cells #[.int .i64 t, .int .i64 d.1] 71 (0, 0))
    replace B2 : (w2.alloc (.cells #[.int .i64 t, .int .i64 d.1] 71 (0, 0))).heap[w.heap.size]? = some (.cells #[.int .i64 3, .bool c.set, .int .i64 c.st.1, .int .i64 c.st.2, .string c.value, .int .i64 c.num.1, .int .i64 c.num.2, .slice ae c.ents.length ce, .slice al c.elems.length cl, .slice at_ c.seen.length cs] 75 (0, 0)) := al_old B2
    replace E2 : (w2.alloc (.cells #[.int .i64 t, .int .i64 d.1] 71 (0, 0))).heap[w.heap.size + 1]? = some (.cells #[.int .i64 d.1, .int .i64 d.2, .int .i64 t, .string v, .bool false] 91 (0, 0)) := al_old E2
    replace C2 : (w2.alloc (.cells #[.int .i64 t, .int .i64 d.1] 71 (0, 0))).heap[w.heap.size + 3]? = some (.cells #[.int .i64 0, .bool false, .int .i64 0, .int .i64 0, .string ⟨#[]⟩, .int .i64 0, .int .i64 0, .slice none 0 0, .slice none 0 0, .slice none 0 0] 75 (0, 0)) := al_old C2
    clear p0 p1 p2 p3 p4 p5 p6 p7 p8 p9 x0 x1 x2 x3 x4 y0 y1 D2
    go_loopg [8] (c.elems.length - (m + 1) + 1) (fun g kv wr => ∃ k : Nat, kv = .int .i64 k ∧ g = c.elems.length - k + 1 ∧ Rel c.elems (t, d.1) (r1, r2) k ∧ Frm No w wr ∧ wr.heap[w.heap.size]? = some (.cells #[.int .i64 3, .bool c.set, .int .i64 c.st.1, .int .i64 c.st.2, .string c.value, .int .i64 c.num.1, .int .i64 c.num.2, .slice ae c.ents.length ce, .slice al c.elems.length cl, .slice at_ c.seen.length cs] 75 (0, 0)) ∧ wr.heap[w.heap.size + 1]? = some (.cells #[.int .i64 d.1, .int .i64 d.2, .int .i64 t, .string v, .bool false] 91 (0, 0)) ∧ wr.heap[w.heap.size + 3]? = some (.cells #[.int .i64 0, .bool false, .int .i64 0, .int .i64 0, .string ⟨#[]⟩, .int .i64 0, .int .i64 0, .slice none 0 0, .slice none 0 0, .slice none 0 0] 75 (0, 0)) ∧ wr.heap[w2.heap.size]? = some (.cells #[.int .i64 t, .int .i64 d.1] 71 (0, 0)))
    case atStart => exact ⟨m + 1, rfl, rfl, HS0.out, F2, B2, E2, C2, T2⟩
    case round =>
      clear F2 B2 E2 C2 T2
      obtain ⟨k, rfl, hg, hrl, f, B, E, C, T⟩ := hrel
      have hG := Lib.hid hg
      have HREL := Lib.hid hrl
      have hkn := hrl.le
      clear hg hrl
      have q8 : wr.cell? ⟨w.heap.size, 8, none⟩ = some (.slice al c.elems.length cl) := obj_cell B 8
      have u0 := obj_cell T 0
      have u1 := obj_cell T 1
      simp at u0 u1
      have lT := lt_of_block T
      have lB := lt_of_block B
      have G1 := Frm.drew No wr
      by_cases hlt : k < c.elems.length
      · obtain ⟨b, off, rfl, hbl, hc⟩ := (HR.out.no f).l.at hlt
        have e0 : wr.cell? ⟨b, off + k * 5, none⟩ = some (.int .i64 c.elems[k].1) := hc 0 _ rfl
        have e2 : wr.cell? ⟨b, off + k * 5 + 2, none⟩ = some (.int .i64 c.elems[k].2.2.1) := hc 2 _ rfl
        clear hc
        obtain ⟨y, hy⟩ : ∃ y, Hid (y = c.elems[k]) := ⟨_, Lib.hid rfl⟩
        rw [← hy.out] at e0 e2
        have HLs := Lib.hid (fun W => refLess_ok (t, d.1) (stOf y) W)
        rcases hls : dotLess (t, d.1) (stOf y) with _ | _
        · rw [hls] at HLs
          have he : ∀ hk : k < c.elems.length, dotLess (t, d.1) (stOf c.elems[k]) = false := fun _ => by rw [← hy.out]; exact hls
          have HPL := Lib.hid (HREL.out.fin he)
          clear he hls
          go_wp2_with (fail)
          refine wp_region_plan [([0, 1, 2, 3, 4, 5, 6, 7, 8, 9, 10, 11, 12, 13, 14, 15, 16, 17, 18, 19, 20], [6]), ([21, 22], [])] 110 (by kernel_rfl) (by kernel_rfl) (by simp) ?_
          intro N hN
          simp only [wpSegs, List.map_cons, List.map_nil, List.getD_cons_zero, List.getD_cons_succ]
          go_wp2_with (fail)
          first | (refine ⟨(again_cons (again_of rfl rfl ?_) again_nil), ?_⟩) | (refine ⟨again_of rfl rfl ?_, ?_⟩)
          · go_simp
          go_wp2_with (fail)
          refine (HLs.out _).mono ?_
          rintro e w3 ⟨rfl, f3⟩
          have G2 := G1.trans f3
          replace f := f.trans G2
          replace B := G2.obj B id
          replace E := G2.obj E id
          replace C := G2.obj C id
          clear q8 u0 u1 e0 e2 G1 G2 f3 HLs lT lB T
          have q8 : w3.cell? ⟨w.heap.size, 8, none⟩ = some (.slice (some ⟨b, off, none⟩) c.elems.length cl) := obj_cell B 8
          have z0 : w.heap.size + 4 ≤ w3.heap.size := by have := lt_of_block C; omega
          have n0 : w.heap.size < w3.heap.size := by omega
          have n1 : w.heap.size + 1 < w3.heap.size := by omega
          have hb2 : (c.elems.take k).length = k := by rw [List.length_take]; omega
          go_wp2_with (at_builtin; refine wpList_ap _ rfl (.tmp 89) (.tmp 93) 73 73 rfl 91 _ 48 Tryz.underlying73 i_el rfl (Ow.nil _ No _ eEl _) ((RdS_take (HR.out.no (f.al _)).l hkn).src Tryz.underlying73) hb2.symm rfl rfl ?c1 ?c2 ?_)
          case c1 => unfold maxLen; simp; omega
          case c2 => simp; omega
          intro a1 c1 w4 o1 f1
          have F4 := (f.al _).trans f1
          have B4 := f1.obj (al_old B) id
          have E4 := f1.obj (al_old E) id
          have C4 := f1.obj (al_old C) id
          replace o1 := o1.from (w.heap.size + 4) (by simp; omega)
          have z4 : w.heap.size + 4 ≤ w4.heap.size := by have := lt_of_block C4; omega
          clear f f1 B E C q8 n0 n1
          have x0 := obj_cell E4 0
          have x1 := obj_cell E4 1
          have x2 := obj_cell E4 2
          have x3 := obj_cell E4 3
          have x4 := obj_cell E4 4
          simp at x0 x1 x2 x3 x4
          have lE4 := lt_of_block E4
          go_wp2_with (at_builtin; refine wpList_ap _ rfl (.tmp 95) (.tmp 97) 73 73 rfl 91 _ 48 Tryz.underlying73 i_el rfl (o1.al _) ((RdS.litg _ eEl ((d.1, d.2, t, v, false) : El) _ (g := w4.heap.size) rfl).src Tryz.underlying73) rfl rfl rfl ?c1 ?c2 ?_)
          case c1 => rw [hb2]; unfold maxLen; omega
          case c2 => rw [hb2]; omega
          intro a2 c2 w5 o2 f2
          have F5 : Frm No w w5 := (F4.al _).then f2 fun k hk hh => by omega
          have B5 := f2.obj (al_old B4) (by omega)
          have C5 := f2.obj (al_old C4) (by omega)
          replace o2 := o2.mono (G := fun k => w.heap.size + 4 ≤ k) fun k _ hh => by rcases hh with hh | hh; exact hh; have := hh.1; simp at this; omega
          have n5 : w.heap.size < w5.heap.size := lt_of_block B5
          have q8 : w5.cell? ⟨w.heap.size, 8, none⟩ = some (.slice (some ⟨b, off, none⟩) c.elems.length cl) := obj_cell B5 8
          clear F4 f2 B4 C4 E4 x0 x1 x2 x3 x4 o1 lE4
          have hl12 : (c.elems.take k ++ [((d.1, d.2, t, v, false) : El)]).length = k + 1 := by simp; omega
          have hb3 : (c.elems.drop k).length = c.elems.length - k := by simp
          go_wp2_with (refine wpList_from _ rfl (.tmp 101) (.tmp 102) 73 91 rfl (E := eEl) Tryz.underlying73 (by kernel_rfl) (by kernel_rfl) (HR.out.no F5).l hkn rfl rfl ?_)
          intro a9 c9 hD
          go_wp2_with (at_builtin; refine wpList_ap _ rfl (.tmp 99) (.tmp 103) 73 73 rfl 91 _ 48 Tryz.underlying73 i_el rfl o2 (hD.src Tryz.underlying73) hb3.symm rfl rfl ?c1 ?c2 ?_)
          case c1 => rw [hl12]; unfold maxLen; omega
          case c2 => rw [hl12]; omega
          intro a3 c3 w6 o3 f3
          have F6 : Frm No w w6 := F5.then f3 fun k hk hh => by omega
          have B6 := f3.obj B5 (by omega)
          have C6 := f3.obj C5 (by omega)
          replace o3 := o3.mono (G := fun k => w.heap.size + 4 ≤ k) fun k _ hh => by rcases hh with hh | hh; exact hh; have := hh.1; have := lt_of_block C5; omega
          have hw6 : w.heap.size + 4 ≤ w6.heap.size := by have := lt_of_block C6; omega
          clear F5 f3 B5 C5 q8 n5 o2 hD
          obtain ⟨no, hno⟩ : ∃ no, Hid (no = k + 1 + (c.elems.length - k)) := ⟨_, Lib.hid rfl⟩
          rw [← hno.out] at o3 ⊢
          obtain ⟨p0, p1, p2, p3, p4, p5, p6, p7, p8, p9⟩ := obj10 B6
          have n6 := lt_of_block B6
          have hcp := refCopy_ok (HR.out.no F6) HB.out
          rw [HV.out] at hcp
          go_wp2_with (fail)
          refine hcp.mono ?_
          rintro e w7 ⟨ve', vl', vs', rfl, o4, f4⟩
          obtain ⟨a4, c4, rfl⟩ := o4.e.sh
          obtain ⟨a5, c5, rfl⟩ := o4.l.sh
          obtain ⟨a6, c6, rfl⟩ := o4.s.sh
          rw [HV.out]
          have F7 := F6.next f4
          have B7 := f4.obj B6 id
          have C7 := f4.obj C6 id
          replace o3 := o3.no f4
          clear hcp p0 p1 p2 p3 p4 p5 p6 p7 p8 p9 B6 C6 F6 f4 n6
          go_wp2_with (refine wpList_sto _ rfl (.tmp 3) (.tmp 106) 75 rfl B7 (by kernel_rfl) (by rfl) (vs := [.int .i64 3, .bool c.set, .int .i64 c.st.1, .int .i64 c.st.2, .string c.value, .int .i64 c.num.1, .int .i64 c.num.2, .slice a4 c.ents.length c4, .slice a5 c.elems.length c5, .slice a6 c.seen.length c6]) (by intro u hu; simp only [List.mem_cons, List.not_mem_nil, or_false] at hu; rcases hu with rfl | rfl | rfl | rfl | rfl | rfl | rfl | rfl | rfl | rfl <;> rfl) rfl rfl ?_)
          intro w8 B8 f8 z8
          have C8 := f8.obj C7 (by omega)
          clear B7 C7
          have n8 := lt_of_block B8
          go_wp2_with (refine wpList_stoC _ rfl (.tmp 108) (.tmp 107) 73 rfl B8 (vs := [.slice a3 no c3]) rfl (by kernel_rfl) (by show 8 + 1 ≤ 10; omega) (by intro u hu; simp at hu; subst hu; rfl) rfl rfl #[.int .i64 3, .bool c.set, .int .i64 c.st.1, .int .i64 c.st.2, .string c.value, .int .i64 c.num.1, .int .i64 c.num.2, .slice a4 c.ents.length c4, .slice a3 no c3, .slice a6 c.seen.length c6] rfl ?_)
          intro w9 B9 f9 z9
          have C9 := f9.obj C8 (by omega)
          clear B8 C8 n8
          have n9 := lt_of_block B9
          obtain ⟨p0, p1, p2, p3, p4, p5, p6, p7, p8, p9⟩ := obj10 B9
          go_wp2_with (refine wpList_sto _ rfl (.tmp 6) (.tmp 109) 75 rfl C9 (by kernel_rfl) (by rfl) (vs := [.int .i64 3, .bool c.set, .int .i64 c.st.1, .int .i64 c.st.2, .string c.value, .int .i64 c.num.1, .int .i64 c.num.2, .slice a4 c.ents.length c4, .slice a3 no c3, .slice a6 c.seen.length c6]) (by intro u hu; simp only [List.mem_cons, List.not_mem_nil, or_false] at hu; rcases hu with rfl | rfl | rfl | rfl | rfl | rfl | rfl | rfl | rfl | rfl <;> rfl) rfl rfl ?_)
          intro w10 C10 f10 z10
          clear p0 p1 p2 p3 p4 p5 p6 p7 p8 p9
          obtain ⟨p0, p1, p2, p3, p4, p5, p6, p7, p8, p9⟩ := obj10 C10
          go_wp2_with (fail)
          refine bodyPost_ret (v := .tuple #[.agg #[.int .i64 3, .bool c.set, .int .i64 c.st.1, .int .i64 c.st.2, .string c.value, .int .i64 c.num.1, .int .i64 c.num.2, .slice a4 c.ents.length c4, .slice a3 no c3, .slice a6 c.seen.length c6], .int .i64 0]) (by simp [results, Tryz.results40, go_sem, *]) rfl ?_
          have G : Frm (fun k => w.heap.size ≤ k ∧ k < w.heap.size + 4) w7 w10 := ((f8.mono fun k _ hk => by omega).trans (f9.mono fun k _ hk => by omega)).trans (f10.mono fun k _ hk => by omega)
          have hG2 : ∀ k, w.heap.size + 4 ≤ k → ¬ (w.heap.size ≤ k ∧ k < w.heap.size + 4) := fun k h => by omega
          have o4' := o4.mono (G := fun k => w.heap.size + 4 ≤ k) fun k hk hh => by rcases hh with hh | hh; exact hh.elim; exact Nat.le_trans hw6 hh.1
          have hins : insF c ((d.1, d.2, t, v, false) : El) (r1, r2) = ({ c with elems := c.elems.take k ++ ((d.1, d.2, t, v, false) : El) :: c.elems.drop k }, 0) := by
            unfold insF
            rw [if_neg (Int.not_le.2 HNE.out), show stOf ((d.1, d.2, t, v, false) : El) = (t, d.1) from rfl, HPL.out]
          rw [hins]
          have o3' : Ow w7 (fun k => w.heap.size + 4 ≤ k) 91 eEl (.slice a3 no c3) (c.elems.take k ++ ((d.1, d.2, t, v, false) : El) :: c.elems.drop k) := o3
          refine ⟨.slice a4 c.ents.length c4, .slice a3 no c3, .slice a6 c.seen.length c6, ?_, ⟨(o4'.e.frm G hG2).fin (by omega), (o3'.frm G hG2).fin (by omega), (o4'.s.frm G hG2).fin (by omega)⟩, F7.then G fun k hk hh => by have := hh.1; omega⟩
          unfold cval
          dsimp only
          rw [HK.out]
        · rw [hls] at HLs
          have hst := HREL.out.step hlt (by rw [← hy.out]; exact hls)
          have HST := Lib.hid hst
          clear hls hst
          go_wp2_with (fail)
          refine wp_region_plan [([0, 1, 2, 3, 4, 5, 6, 7, 8, 9, 10, 11, 12, 13, 14, 15, 16, 17, 18, 19, 20], [6]), ([21, 22], [])] 110 (by kernel_rfl) (by kernel_rfl) (by simp) ?_
          intro N hN
          simp only [wpSegs, List.map_cons, List.map_nil, List.getD_cons_zero, List.getD_cons_succ]
          go_wp2_with (fail)
          first | (refine ⟨(again_cons (again_of rfl rfl ?_) again_nil), ?_⟩) | (refine ⟨again_of rfl rfl ?_, ?_⟩)
          · go_simp
          go_wp2_with (fail)
          refine (HLs.out _).mono ?_
          rintro e w3 ⟨rfl, f3⟩
          have G2 := G1.trans f3
          go_wp2_with (fail)
          go_roundg (c.elems.length - (k + 1) + 1)
          case measure => have := hG.out; omega
          case rel => exact ⟨k + 1, by go_num, rfl, HST.out, f.trans G2, G2.obj B id, G2.obj E id, G2.obj C id, G2.obj T id⟩
      · have hlt' : ¬ ((k : Int) < (c.elems.length : Int)) := by omega
        have HPL := Lib.hid (HREL.out.fin fun h => absurd h hlt)
        clear hlt
        go_wp2_with (fail)
        refine wp_region_plan [([0, 1, 2, 3, 4, 5, 6, 7, 8, 9, 10, 11, 12, 13, 14, 15, 16, 17, 18, 19, 20], [6]), ([21, 22], [])] 110 (by kernel_rfl) (by kernel_rfl) (by simp) ?_
        intro N hN
        simp only [wpSegs, List.map_cons, List.map_nil, List.getD_cons_zero, List.getD_cons_succ]
        go_wp2_with (fail)
        first | (refine ⟨(again_cons (again_off rfl rfl) again_nil), ?_⟩) | (refine ⟨again_off rfl rfl, ?_⟩)
        replace f := f.trans G1
        replace B := G1.obj B id
        replace E := G1.obj E id
        replace C := G1.obj C id
        clear q8 u0 u1 lT lB T G1
        revert f B E C
        generalize wr.drew = w3
        intro f B E C
        have q8 : w3.cell? ⟨w.heap.size, 8, none⟩ = some (.slice al c.elems.length cl) := obj_cell B 8
        have z0 : w.heap.size + 4 ≤ w3.heap.size := by have := lt_of_block C; omega
        have n0 : w.heap.size < w3.heap.size := by omega
        have n1 : w.heap.size + 1 < w3.heap.size := by omega
        have hb2 : (c.elems.take k).length = k := by rw [List.length_take]; omega
        go_wp2_with (at_builtin; refine wpList_ap _ rfl (.tmp 89) (.tmp 93) 73 73 rfl 91 _ 48 Tryz.underlying73 i_el rfl (Ow.nil _ No _ eEl _) ((RdS_take (HR.out.no (f.al _)).l hkn).src Tryz.underlying73) hb2.symm rfl rfl ?c1 ?c2 ?_)
        case c1 => unfold maxLen; simp; omega
        case c2 => simp; omega
        intro a1 c1 w4 o1 f1
        have F4 := (f.al _).trans f1
        have B4 := f1.obj (al_old B) id
        have E4 := f1.obj (al_old E) id
        have C4 := f1.obj (al_old C) id
        replace o1 := o1.from (w.heap.size + 4) (by simp; omega)
        have z4 : w.heap.size + 4 ≤ w4.heap.size := by have := lt_of_block C4; omega
        clear f f1 B E C q8 n0 n1
        have x0 := obj_cell E4 0
        have x1 := obj_cell E4 1
        have x2 := obj_cell E4 2
        have x3 := obj_cell E4 3
        have x4 := obj_cell E4 4
        simp at x0 x1 x2 x3 x4
        have lE4 := lt_of_block E4
        go_wp2_with (at_builtin; refine wpList_ap _ rfl (.tmp 95) (.tmp 97) 73 73 rfl 91 _ 48 Tryz.underlying73 i_el rfl (o1.al _) ((RdS.litg _ eEl ((d.1, d.2, t, v, false) : El) _ (g := w4.heap.size) rfl).src Tryz.underlying73) rfl rfl rfl ?c1 ?c2 ?_)
        case c1 => rw [hb2]; unfold maxLen; omega
        case c2 => rw [hb2]; omega
        intro a2 c2 w5 o2 f2
        have F5 : Frm No w w5 := (F4.al _).then f2 fun k hk hh => by omega
        have B5 := f2.obj (al_old B4) (by omega)
        have C5 := f2.obj (al_old C4) (by omega)
        replace o2 := o2.mono (G := fun k => w.heap.size + 4 ≤ k) fun k _ hh => by rcases hh with hh | hh; exact hh; have := hh.1; simp at this; omega
        have n5 : w.heap.size < w5.heap.size := lt_of_block B5
        have q8 : w5.cell? ⟨w.heap.size, 8, none⟩ = some (.slice al c.elems.length cl) := obj_cell B5 8
        clear F4 f2 B4 C4 E4 x0 x1 x2 x3 x4 o1 lE4
        have hl12 : (c.elems.take k ++ [((d.1, d.2, t, v, false) : El)]).length = k + 1 := by simp; omega
        have hb3 : (c.elems.drop k).length = c.elems.length - k := by simp
        go_wp2_with (refine wpList_from _ rfl (.tmp 101) (.tmp 102) 73 91 rfl (E := eEl) Tryz.underlying73 (by kernel_rfl) (by kernel_rfl) (HR.out.no F5).l hkn rfl rfl ?_)
        intro a9 c9 hD
        go_wp2_with (at_builtin; refine wpList_ap _ rfl (.tmp 99) (.tmp 103) 73 73 rfl 91 _ 48 Tryz.underlying73 i_el rfl o2 (hD.src Tryz.underlying73) hb3.symm rfl rfl ?c1 ?c2 ?_)
        case c1 => rw [hl12]; unfold maxLen; omega
        case c2 => rw [hl12]; omega
        intro a3 c3 w6 o3 f3
        have F6 : Frm No w w6 := F5.then f3 fun k hk hh => by omega
        have B6 := f3.obj B5 (by omega)
        have C6 := f3.obj C5 (by omega)
        replace o3 := o3.mono (G := fun k => w.heap.size + 4 ≤ k) fun k _ hh => by rcases hh with hh | hh; exact hh; have := hh.1; have := lt_of_block C5; omega
        have hw6 : w.heap.size + 4 ≤ w6.heap.size := by have := lt_of_block C6; omega
        clear F5 f3 B5 C5 q8 n5 o2 hD
        obtain ⟨no, hno⟩ : ∃ no, Hid (no = k + 1 + (c.elems.length - k)) := ⟨_, Lib.hid rfl⟩
        rw [← hno.out] at o3 ⊢
        obtain ⟨p0, p1, p2, p3, p4, p5, p6, p7, p8, p9⟩ := obj10 B6
        have n6 := lt_of_block B6
        have hcp := refCopy_ok (HR.out.no F6) HB.out
        rw [HV.out] at hcp
        go_wp2_with (fail)
        refine hcp.mono ?_
        rintro e w7 ⟨ve', vl', vs', rfl, o4, f4⟩
        obtain ⟨a4, c4, rfl⟩ := o4.e.sh
        obtain ⟨a5, c5, rfl⟩ := o4.l.sh
        obtain ⟨a6, c6, rfl⟩ := o4.s.sh
        rw [HV.out]
        have F7 := F6.next f4
        have B7 := f4.obj B6 id
        have C7 := f4.obj C6 id
        replace o3 := o3.no f4
        clear hcp p0 p1 p2 p3 p4 p5 p6 p7 p8 p9 B6 C6 F6 f4 n6
        go_wp2_with (refine wpList_sto _ rfl (.tmp 3) (.tmp 106) 75 rfl B7 (by kernel_rfl) (by rfl) (vs := [.int .i64 3, .bool c.set, .int .i64 c.st.1, .int .i64 c.st.2, .string c.value, .int .i64 c.num.1, .int .i64 c.num.2, .slice a4 c.ents.length c4, .slice a5 c.elems.length c5, .slice a6 c.seen.length c6]) (by intro u hu; simp only [List.mem_cons, List.not_mem_nil, or_false] at hu; rcases hu with rfl | rfl | rfl | rfl | rfl | rfl | rfl | rfl | rfl | rfl <;> rfl) rfl rfl ?_)
        intro w8 B8 f8 z8
        have C8 := f8.obj C7 (by omega)
        clear B7 C7
        have n8 := lt_of_block B8
        go_wp2_with (refine wpList_stoC _ rfl (.tmp 108) (.tmp 107) 73 rfl B8 (vs := [.slice a3 no c3]) rfl (by kernel_rfl) (by show 8 + 1 ≤ 10; omega) (by intro u hu; simp at hu; subst hu; rfl) rfl rfl #[.int .i64 3, .bool c.set, .int .i64 c.st.1, .int .i64 c.st.2, .string c.value, .int .i64 c.num.1, .int .i64 c.num.2, .slice a4 c.ents.length c4, .slice a3 no c3, .slice a6 c.seen.length c6] rfl ?_)
        intro w9 B9 f9 z9
        have C9 := f9.obj C8 (by omega)
        clear B8 C8 n8
        have n9 := lt_of_block B9
        obtain ⟨p0, p1, p2, p3, p4, p5, p6, p7, p8, p9⟩ := obj10 B9
        go_wp2_with (refine wpList_sto _ rfl (.tmp 6) (.tmp 109) 75 rfl C9 (by kernel_rfl) (by rfl) (vs := [.int .i64 3, .bool c.set, .int .i64 c.st.1, .int .i64 c.st.2, .string c.value, .int .i64 c.num.1, .int .i64 c.num.2, .slice a4 c.ents.length c4, .slice a3 no c3, .slice a6 c.seen.length c6]) (by intro u hu; simp only [List.mem_cons, List.not_mem_nil, or_false] at hu; rcases hu with rfl | rfl | rfl | rfl | rfl | rfl | rfl | rfl | rfl | rfl <;> rfl) rfl rfl ?_)
        intro w10 C10 f10 z10
        clear p0 p1 p2 p3 p4 p5 p6 p7 p8 p9
        obtain ⟨p0, p1, p2, p3, p4, p5, p6, p7, p8, p9⟩ := obj10 C10
        go_wp2_with (fail)
        refine bodyPost_ret (v := .tuple #[.agg #[.int .i64 3, .bool c.set, .int .i64 c.st.1, .int .i64 c.st.2, .string c.value, .int .i64 c.num.1, .int .i64 c.num.2, .slice a4 c.ents.length c4, .slice a3 no c3, .slice a6 c.seen.length c6], .int .i64 0]) (by simp [results, Tryz.results40, go_sem, *]) rfl ?_
        have G : Frm (fun k => w.heap.size ≤ k ∧ k < w.heap.size + 4) w7 w10 := ((f8.mono fun k _ hk => by omega).trans (f9.mono fun k _ hk => by omega)).trans (f10.mono fun k _ hk => by omega)
        have hG2 : ∀ k, w.heap.size + 4 ≤ k → ¬ (w.heap.size ≤ k ∧ k < w.heap.size + 4) := fun k h => by omega
        have o4' := o4.mono (G := fun k => w.heap.size + 4 ≤ k) fun k hk hh => by rcases hh with hh | hh; exact hh.elim; exact Nat.le_trans hw6 hh.1
        have hins : insF c ((d.1, d.2, t, v, false) : El) (r1, r2) = ({ c with elems := c.elems.take k ++ ((d.1, d.2, t, v, false) : El) :: c.elems.drop k }, 0) := by
          unfold insF
          rw [if_neg (Int.not_le.2 HNE.out), show stOf ((d.1, d.2, t, v, false) : El) = (t, d.1) from rfl, HPL.out]
        rw [hins]
        have o3' : Ow w7 (fun k => w.heap.size + 4 ≤ k) 91 eEl (.slice a3 no c3) (c.elems.take k ++ ((d.1, d.2, t, v, false) : El) :: c.elems.drop k) := o3
        refine ⟨.slice a4 c.ents.length c4, .slice a3 no c3, .slice a6 c.seen.length c6, ?_, ⟨(o4'.e.frm G hG2).fin (by omega), (o3'.frm G hG2).fin (by omega), (o4'.s.frm G hG2).fin (by omega)⟩, F7.then G fun k hk hh => by have := hh.1; omega⟩
        unfold cval
        dsimp only
        rw [HK.out]
end Go.Proofs.YtgpdpalhkkjmiaaGreatDoor

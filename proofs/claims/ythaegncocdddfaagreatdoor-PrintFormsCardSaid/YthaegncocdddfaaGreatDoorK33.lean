/- Merged: Sam2. -/
import Derived.Test.YthaegncocdddfaaGreatDoorK20
import Derived.Test.YthaegncocdddfaaGreatDoorK26
import Derived.Test.YthaegncocdddfaaGreatDoorK32
/- Documents compared: same. -/
namespace Go.Proofs.YthaegncocdddfaaGreatDoor
set_option linter.unusedVariables false
set_option linter.unusedSimpArgs false
set_option linter.unusedVariables false
set_option linter.unusedSimpArgs false
open Go.RowKit Go.Lib Go.Tt
set_option maxHeartbeats 8000000 in
set_option maxRecDepth 100000 in
theorem frag_eq {w : World} {F G : Nat → Prop} {n1 o1 n2 o2 : ByteArray} {rsp qsp : Option Addr} {rsn rsc qsn qsc : Nat} {ss us : List Sl} (hx : RdSs w F (.slice rsp rsn rsc) ss) (hy : RdSs w G (.slice qsp qsn qsc) us) :
    Calls Tryz.prog 59 #[.agg #[.string n1, .string o1, .slice rsp rsn rsc], .agg #[.string n2, .string o2, .slice qsp qsn qsc]] w fun e w' => ∃ b, e = .returned (.bool b) ∧ (b = true ↔ (⟨n1, o1, ss⟩ : Fg) = ⟨n2, o2, us⟩) ∧ Frm No w w' := by
  have HSS := Lib.hid hx
  have HST := Lib.hid hy
  clear hx hy
  obtain ⟨R, hR⟩ : ∃ R : Ending → World → Prop, R = fun e w' => ∃ b, e = .returned (.bool b) ∧ (b = true ↔ (⟨n1, o1, ss⟩ : Fg) = ⟨n2, o2, us⟩) ∧ Frm No w w' := ⟨_, rfl⟩
  rw [← hR]
  have HQ := Lib.hid hR
  clear hR
  have no : ∀ w', ¬ ((⟨n1, o1, ss⟩ : Fg) = ⟨n2, o2, us⟩) → Frm No w w' → R (.returned (.bool false)) w' := fun w' hne f => by
    rw [HQ.out]
    exact ⟨false, rfl, ⟨fun h => (by cases h), fun h => absurd h hne⟩, f⟩
  have NO := Lib.hid no
  clear no
  have F2 : Frm No w ((w.alloc (.cells #[.string n1, .string o1, .slice rsp rsn rsc] 53)).alloc (.cells #[.string n2, .string o2, .slice qsp qsn qsc] 53)) := ((Frm.refl No w).al _).al _
  by_cases e1 : n1 = n2
  rotate_left
  · have b1 : (n1.toList == n2.toList) = false := by rw [beq_eq_false_iff_ne, ne_eq, tlp_eq]; exact e1
    have HNE := Lib.hid (show ¬ ((⟨n1, o1, ss⟩ : Fg) = ⟨n2, o2, us⟩) from fun h => e1 (by injection h))
    clear e1
    go_enter Tryz.func59, Tryz.ntmps59
    go_wp2_with (fail)
    exact NO.out _ HNE.out F2
  subst e1
  by_cases e2 : o1 = o2
  rotate_left
  · have b2 : (o1.toList == o2.toList) = false := by rw [beq_eq_false_iff_ne, ne_eq, tlp_eq]; exact e2
    have HNE := Lib.hid (show ¬ ((⟨n1, o1, ss⟩ : Fg) = ⟨n1, o2, us⟩) from fun h => e2 (by injection h))
    clear e2
    go_enter Tryz.func59, Tryz.ntmps59
    go_wp2_with (fail)
    exact NO.out _ HNE.out F2
  subst e2
  have HF2 := Lib.hid F2
  clear F2
  go_enter Tryz.func59, Tryz.ntmps59
  go_wp2_with (fail)
  refine (eqF_all (nSs ss) (HSS.out.frm HF2.out fun _ _ _ h => h) (HST.out.frm HF2.out fun _ _ _ h => h) (Nat.le_refl _)).mono ?_
  rintro e w5 ⟨bq, rfl, hbq, f5⟩
  have HBQ := Lib.hid hbq
  have F5 := HF2.out.trans f5
  clear hbq f5
  go_wp2_with (fail)
  rw [HQ.out]
  refine ⟨bq, rfl, ?_, F5⟩
  rw [HBQ.out]
  exact ⟨fun h => by rw [h], fun h => by injection h⟩
set_option maxHeartbeats 8000000 in
set_option maxRecDepth 100000 in
theorem eqG_ok {w : World} {F G : Nat → Prop} {v u : Value} {ss ts : List Fg} {rs qs : List FgC} (hS : RdB w F eFg v rs) (hA : RdFgs w F rs ss) (hT : RdB w G eFg u qs) (hB : RdFgs w G qs ts) :
    Calls Tryz.prog 63 #[v, u, .func (.func 59) #[] #[]] w fun e w' => ∃ q, e = .returned (.bool q) ∧ (q = true ↔ ss = ts) ∧ Frm No w w' := by
  obtain ⟨a1, c1, rfl⟩ := hS.1.sh
  obtain ⟨a2, c2, rfl⟩ := hT.1.sh
  have la := hA.len
  have lb := hB.len
  have hl1 : ss.length ≤ 9223372036854775807 := by
    have h1 := hS.1.facts
    unfold maxLen at h1
    omega
  have hl2 : ts.length ≤ 9223372036854775807 := by
    have h1 := hT.1.facts
    unfold maxLen at h1
    omega
  have HS := Lib.hid hS
  have HT := Lib.hid hT
  have HA := Lib.hid hA
  have HB := Lib.hid hB
  have LA := Lib.hid la
  have LB := Lib.hid lb
  rw [la, lb]
  obtain ⟨R, hR⟩ : ∃ R : Ending → World → Prop, R = fun e w' => ∃ q, e = .returned (.bool q) ∧ (q = true ↔ ss = ts) ∧ Frm No w w' := ⟨_, rfl⟩
  rw [← hR]
  have HQ := Lib.hid hR
  clear hR hS hT hA hB la lb
  by_cases hl : ss.length = ts.length
  · have hlb : ((ss.length : Int) != (ts.length : Int)) = false := by simp [hl]
    have HLE := Lib.hid hl
    clear hl
    go_enter Tryz.func63, Tryz.ntmps63
    go_wp2_with (fail)
    go_loopg [17] (ss.length + 1) (fun g iv wr => ∃ i : Nat, iv = .int .i64 i ∧ g = ss.length - i + 1 ∧ i ≤ ss.length ∧ ss.take i = ts.take i ∧ Frm No w wr)
    case atStart => exact ⟨0, rfl, rfl, Nat.zero_le _, rfl, Frm.refl _ _⟩
    case round =>
      obtain ⟨i, rfl, hg, hi, ht, f⟩ := hrel
      have HG := Lib.hid hg
      have HTK := Lib.hid ht
      clear hg ht
      by_cases hlt : i < ss.length
      · have hlt2 : i < ts.length := by have := HLE.out; omega
        have hlt' : i < rs.length := by have := LA.out; omega
        have hlt2' : i < qs.length := by have := LB.out; omega
        obtain ⟨b1, o1, hao1, hb1, k1⟩ := HS.out.1.at hlt'
        obtain ⟨b2, o2, hao2, hb2, k2⟩ := HT.out.1.at hlt2'
        obtain ⟨⟨z1, z2⟩, hRd1⟩ := HA.out.at i hlt hlt'
        obtain ⟨⟨y1, y2⟩, hRd2⟩ := HB.out.at i hlt2 hlt2'
        obtain ⟨x, hx⟩ : ∃ x, x = ss[i] := ⟨_, rfl⟩
        obtain ⟨y, hy⟩ : ∃ y, y = ts[i] := ⟨_, rfl⟩
        obtain ⟨r, hr⟩ : ∃ r, r = rs[i] := ⟨_, rfl⟩
        obtain ⟨q, hq⟩ : ∃ q, q = qs[i] := ⟨_, rfl⟩
        rw [← hr] at k1 hRd1 z1 z2
        rw [← hq] at k2 hRd2 y1 y2
        rw [← hx] at hRd1 z1 z2
        rw [← hy] at hRd2 y1 y2
        subst hao1 hao2
        obtain ⟨r0, r1, ⟨rsp, rsn, rsc⟩⟩ := r
        obtain ⟨q0, q1, ⟨qsp, qsn, qsc⟩⟩ := q
        simp only at z1 z2 y1 y2 hRd1 hRd2
        obtain ⟨xn, xo, xs⟩ := x
        obtain ⟨yn, yo, ys⟩ := y
        simp only at z1 z2 y1 y2 hRd1 hRd2
        subst z1 z2 y1 y2
        have m0 : wr.cell? ⟨b1, o1 + i * 3, none⟩ = some (.string r0) := (f.cell (p := ⟨b1, o1 + i * 3, none⟩) hb1 id).trans (k1 0 _ rfl)
        have m1 : wr.cell? ⟨b1, o1 + i * 3 + 1, none⟩ = some (.string r1) := (f.cell (p := ⟨b1, o1 + i * 3 + 1, none⟩) hb1 id).trans (k1 1 _ rfl)
        have m2 : wr.cell? ⟨b1, o1 + i * 3 + 2, none⟩ = some (.slice rsp rsn rsc) := (f.cell (p := ⟨b1, o1 + i * 3 + 2, none⟩) hb1 id).trans (k1 2 _ rfl)
        have n0 : wr.cell? ⟨b2, o2 + i * 3, none⟩ = some (.string q0) := (f.cell (p := ⟨b2, o2 + i * 3, none⟩) hb2 id).trans (k2 0 _ rfl)
        have n1 : wr.cell? ⟨b2, o2 + i * 3 + 1, none⟩ = some (.string q1) := (f.cell (p := ⟨b2, o2 + i * 3 + 1, none⟩) hb2 id).trans (k2 1 _ rfl)
        have n2 : wr.cell? ⟨b2, o2 + i * 3 + 2, none⟩ = some (.slice qsp qsn qsc) := (f.cell (p := ⟨b2, o2 + i * 3 + 2, none⟩) hb2 id).trans (k2 2 _ rfl)
        have hb1w : b1 < wr.heap.size := Nat.lt_of_lt_of_le hb1 f.size
        have hb2w : b2 < wr.heap.size := Nat.lt_of_lt_of_le hb2 f.size
        have HXI := Lib.hid hx
        have HYI := Lib.hid hy
        have HLT := Lib.hid hlt
        have HLT2 := Lib.hid hlt2
        have HR1 := Lib.hid hRd1
        have HR2 := Lib.hid hRd2
        clear k1 k2 hx hy hr hq hRd1 hRd2 hlt' hlt2'
        go_wp2_with (fail)
        refine (frag_eq (HR1.out.frm ((f.al _).al _) fun _ _ _ h => h) (HR2.out.frm ((f.al _).al _) fun _ _ _ h => h)).mono ?_
        rintro e w2 ⟨bq, rfl, hbq, f2⟩
        have F2 : Frm No w w2 := ((f.al _).al _).trans f2
        have HBQ := Lib.hid hbq
        clear f2 hbq m0 m1 m2 n0 n1 n2
        cases bq
        · go_wp2_with (fail)
          rw [HQ.out]
          have hne2 : ss ≠ ts := ne_at HLT.out HLT2.out HXI HYI fun e => by first | exact HBQ.out e | (have := HBQ.out.2 e; cases this)
          exact ⟨false, rfl, ⟨fun h => (by cases h), fun h => absurd h hne2⟩, F2⟩
        · go_wp2_with (fail)
          go_roundg (ss.length - (i + 1) + 1)
          case measure => have := HG.out; have := HLT.out; omega
          case rel => exact ⟨i + 1, by go_num, rfl, HLT.out, take_step HLT.out HLT2.out HTK.out (by rw [← HXI.out, ← HYI.out]; first | exact HBQ.out.1 rfl | exact HBQ.out.1 trivial), F2⟩
      · obtain rfl : i = ss.length := by omega
        have e : ss = ts := by
          have := HTK.out
          rw [List.take_length, List.take_of_length_le (by have := HLE.out; omega)] at this
          exact this
        have HEQ := Lib.hid e
        clear e hlt hi
        go_wp2_with (fail)
        rw [HQ.out]
        exact ⟨true, rfl, ⟨fun _ => HEQ.out, fun _ => rfl⟩, f⟩
  · have hlb : ((ss.length : Int) != (ts.length : Int)) = true := by simp; omega
    have hne2 : Hid (ss ≠ ts) := Lib.hid fun e => hl (by rw [e])
    clear hl
    go_enter Tryz.func63, Tryz.ntmps63
    go_wp2_with (fail)
    rw [HQ.out]
    exact ⟨false, rfl, ⟨fun h => (by cases h), fun h => absurd h hne2.out⟩, Frm.refl _ _⟩
set_option maxHeartbeats 8000000 in
set_option maxRecDepth 100000 in
theorem same_ok {w : World} {F G : Nat → Prop} {v u : DocC} {d c : Dm} (hx : RdDoc w F v d) (hy : RdDoc w G u c) :
    Calls Tryz.prog 29 #[dval v, dval u] w fun e w' => ∃ b, e = .returned (.bool b) ∧ (b = true ↔ d = c) ∧ Frm No w w' := by
  obtain ⟨vm, ⟨dp, dn, dc⟩, ⟨sp1, sn, sc⟩, ⟨fp, fn, fc⟩⟩ := v
  obtain ⟨um, ⟨ep, en, ec⟩, ⟨tp1, tn, tc⟩, ⟨gp, gn, gc⟩⟩ := u
  obtain ⟨h0, hD, hS, rs, hF, hFs⟩ := hx
  obtain ⟨g0, gD, gS, qs, gF, gFs⟩ := hy
  obtain ⟨mu, ds, ss, fs⟩ := d
  obtain ⟨mv, es, ts, gs⟩ := c
  simp only at h0 hD hS hF hFs g0 gD gS gF gFs
  subst h0 g0
  unfold dval
  simp only
  have HD := Lib.hid hD.1
  have GD := Lib.hid gD.1
  have HS := Lib.hid hS
  have GS := Lib.hid gS
  have HF := Lib.hid hF
  have GF := Lib.hid gF
  have HFs := Lib.hid hFs
  have GFs := Lib.hid gFs
  clear hD gD hS gS hF gF hFs gFs
  obtain ⟨R, hR⟩ : ∃ R : Ending → World → Prop, R = fun e w' => ∃ b, e = .returned (.bool b) ∧ (b = true ↔ (⟨vm, ds, ss, fs⟩ : Dm) = ⟨um, es, ts, gs⟩) ∧ Frm No w w' := ⟨_, rfl⟩
  rw [← hR]
  have HQ := Lib.hid hR
  clear hR
  have no : ∀ w', ¬ ((⟨vm, ds, ss, fs⟩ : Dm) = ⟨um, es, ts, gs⟩) → Frm No w w' → R (.returned (.bool false)) w' := fun w' hne f => by
    rw [HQ.out]
    exact ⟨false, rfl, ⟨fun h => (by cases h), fun h => absurd h hne⟩, f⟩
  have NO := Lib.hid no
  clear no
  by_cases e0 : vm = um
  rotate_left
  · have b0 : (vm == um) = false := by simp [e0]
    have HNE := Lib.hid (show ¬ ((⟨vm, ds, ss, fs⟩ : Dm) = ⟨um, es, ts, gs⟩) from fun h => e0 (by injection h))
    have F2 : Frm No w ((w.alloc (.cells #[.bool vm, .slice dp dn dc, .slice sp1 sn sc, .slice fp fn fc] 26)).alloc (.cells #[.bool um, .slice ep en ec, .slice tp1 tn tc, .slice gp gn gc] 26)) := ((Frm.refl No w).al _).al _
    clear e0
    go_enter Tryz.func29, Tryz.ntmps29
    go_wp2_with (fail)
    exact NO.out _ HNE.out F2
  subst e0
  have F2 : Frm No w ((w.alloc (.cells #[.bool vm, .slice dp dn dc, .slice sp1 sn sc, .slice fp fn fc] 26)).alloc (.cells #[.bool vm, .slice ep en ec, .slice tp1 tn tc, .slice gp gn gc] 26)) := ((Frm.refl No w).al _).al _
  have B1 : ((w.alloc (.cells #[.bool vm, .slice dp dn dc, .slice sp1 sn sc, .slice fp fn fc] 26)).alloc (.cells #[.bool vm, .slice ep en ec, .slice tp1 tn tc, .slice gp gn gc] 26)).heap[w.heap.size]? = some (.cells #[.bool vm, .slice dp dn dc, .slice sp1 sn sc, .slice fp fn fc] 26 (0, 0)) := al_old (heap_alloc_new w _)
  have B2 : ((w.alloc (.cells #[.bool vm, .slice dp dn dc, .slice sp1 sn sc, .slice fp fn fc] 26)).alloc (.cells #[.bool vm, .slice ep en ec, .slice tp1 tn tc, .slice gp gn gc] 26)).heap[w.heap.size + 1]? = some (.cells #[.bool vm, .slice ep en ec, .slice tp1 tn tc, .slice gp gn gc] 26 (0, 0)) := by
    have := heap_alloc_new (w.alloc (.cells #[.bool vm, .slice dp dn dc, .slice sp1 sn sc, .slice fp fn fc] 26)) (.cells #[.bool vm, .slice ep en ec, .slice tp1 tn tc, .slice gp gn gc] 26)
    rwa [World.size_alloc] at this
  have HB1 := Lib.hid B1
  have HB2 := Lib.hid B2
  have HF2 := Lib.hid F2
  clear B1 B2 F2
  go_enter Tryz.func29, Tryz.ntmps29
  go_wp2_with (fail)
  refine (equal_Dc (HD.out.no HF2.out) (GD.out.no HF2.out)).mono ?_
  rintro e w3 ⟨rfl, f3⟩
  have F3 := HF2.out.trans f3
  have C1 := f3.obj HB1.out id
  have C2 := f3.obj HB2.out id
  clear f3 HB1 HB2 HF2
  by_cases e3 : ds = es
  rotate_left
  · have HNE := Lib.hid (show ¬ ((⟨vm, ds, ss, fs⟩ : Dm) = ⟨vm, es, ts, gs⟩) from fun h => e3 (by injection h))
    have d3 : decide (ds = es) = false := decide_eq_false e3
    rw [d3]
    clear e3 d3 C1 C2
    go_wp2_with (fail)
    exact NO.out _ HNE.out F3
  have d3 : decide (ds = es) = true := decide_eq_true e3
  rw [d3]
  subst e3
  have m4 : w3.cell? ⟨w.heap.size, 2, none⟩ = some (.slice sp1 sn sc) := obj_cell C1 2
  have n4 : w3.cell? ⟨w.heap.size + 1, 2, none⟩ = some (.slice tp1 tn tc) := obj_cell C2 2
  have HC1 := Lib.hid C1
  have HC2 := Lib.hid C2
  have h1s := lt_of_block C1
  have h2s := lt_of_block C2
  clear d3 C1 C2
  go_wp2_with (fail)
  refine (eqF_all (nSs ss) (HS.out.frm F3 fun _ _ _ h => h) (GS.out.frm F3 fun _ _ _ h => h) (Nat.le_refl _)).mono ?_
  rintro e w4 ⟨b4, rfl, hb4, f4⟩
  have F4 := F3.trans f4
  have C1 := f4.obj HC1.out id
  have C2 := f4.obj HC2.out id
  have HB4 := Lib.hid hb4
  clear f4 HC1 HC2 F3 m4 n4 h1s h2s hb4
  cases b4
  · have HNE := Lib.hid (show ¬ ((⟨vm, ds, ss, fs⟩ : Dm) = ⟨vm, ds, ts, gs⟩) from fun h => by
      have e : ss = ts := by injection h
      have := HB4.out.2 e
      cases this)
    clear C1 C2
    go_wp2_with (fail)
    exact NO.out _ HNE.out F4
  obtain rfl := HB4.out.1 rfl
  have m5 : w4.cell? ⟨w.heap.size, 3, none⟩ = some (.slice fp fn fc) := obj_cell C1 3
  have n5 : w4.cell? ⟨w.heap.size + 1, 3, none⟩ = some (.slice gp gn gc) := obj_cell C2 3
  have h1s := lt_of_block C1
  have h2s := lt_of_block C2
  clear C1 C2 HB4
  go_wp2_with (fail)
  refine (eqG_ok (HF.out.frm F4 fun _ _ _ h => h) (RdFgs.frm F4 (fun _ _ _ h => h) HFs.out) (GF.out.frm F4 fun _ _ _ h => h) (RdFgs.frm F4 (fun _ _ _ h => h) GFs.out)).mono ?_
  rintro e w5 ⟨bq, rfl, hbq, f5⟩
  have HBQ := Lib.hid hbq
  have F5 := F4.trans f5
  clear hbq f5
  go_wp2_with (fail)
  rw [HQ.out]
  refine ⟨bq, rfl, ?_, F5⟩
  rw [HBQ.out]
  exact ⟨fun h => by rw [h], fun h => by injection h⟩
end Go.Proofs.YthaegncocdddfaaGreatDoor

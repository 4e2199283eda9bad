/- Merged: RefOp. -/
import Derived.Test.YtofikfkgiblblaaGreatDoorQ38
import Derived.Test.YtofikfkgiblblaaGreatDoorZC1
import Derived.Test.YtofikfkgiblblaaGreatDoorZC2
set_option linter.unusedVariables false
set_option linter.unusedSimpArgs false
/- The reference: may an operation be? -/
namespace Go.Proofs.YtofikfkgiblblaaGreatDoor
set_option linter.unusedVariables false
set_option linter.unusedSimpArgs false
open Go.RowKit Go.Lib Go.Tt Go.Shelf
theorem own_long {o : OpV} (h : ¬ o.value.size ≤ 256) : (ownMay o && opBare o) = false := by
  by_cases hk : (o.kind = 0 ∨ o.kind = 2 ∨ o.kind = 4)
  · have : ownMay o = false := by
      unfold ownMay
      by_cases h1 : o.kind = 0 ∨ o.kind = 2
      · rw [if_pos h1]; exact decide_eq_false h
      · rw [if_neg h1, if_neg (by omega), if_neg (by omega), if_pos (by omega), decide_eq_false h, Bool.false_and]
    rw [this, Bool.false_and]
  · have : opBare o = false := decide_eq_false fun e => by
      rcases e.1 with e | e
      · exact hk e
      · omega
    rw [this, Bool.and_false]
theorem tail_bool (k : Int) (N F D V Z : Prop) [Decidable N] [Decidable F] [Decidable D] [Decidable V] [Decidable Z] (hz : Z) (X1 X2 X3 : Bool) :
    ((if k = 0 ∨ k = 2 then decide Z else if k = 1 then X1 else if k = 3 then X2 else if k = 4 then (decide Z && (decide F || X3)) else if k = 5 then X3 else false) && decide (((k = 0 ∨ k = 2 ∨ k = 4) ∨ V) ∧ (k = 1 ∨ N) ∧ ((k = 4 ∨ k = 5) ∨ F) ∧ (k = 3 ∨ D)))
    = (if k = 0 ∨ k = 2 then (decide N && decide F && decide D) else if k = 1 then (decide F && decide D && decide V && X1) else if k = 3 then (decide N && decide F && decide V && X2) else if k = 4 then (decide N && decide D && (decide F || X3)) else if k = 5 then (decide N && decide D && decide V && X3) else false) := by
  have hc : k = 0 ∨ k = 1 ∨ k = 2 ∨ k = 3 ∨ k = 4 ∨ k = 5 ∨ (¬ k = 0 ∧ ¬ k = 1 ∧ ¬ k = 2 ∧ ¬ k = 3 ∧ ¬ k = 4 ∧ ¬ k = 5) := by omega
  by_cases hN : N <;> by_cases hF : F <;> by_cases hD : D <;> by_cases hV : V <;> rcases hc with rfl | rfl | rfl | rfl | rfl | rfl | ⟨h0, h1, h2, h3, h4, h5⟩ <;> simp [*]
theorem own_tail {o : OpV} (h : o.value.size ≤ 256) : (ownMay o && opBare o) = (if o.kind = 0 ∨ o.kind = 2 then (decide (o.num.1 = 0 ∧ o.num.2 = 0) && decide (o.ref.1 = 0 ∧ o.ref.2 = 0) && decide (o.dots.length = 0)) else if o.kind = 1 then (decide (o.ref.1 = 0 ∧ o.ref.2 = 0) && decide (o.dots.length = 0) && decide (o.value.size = 0) && numMay o.num) else if o.kind = 3 then (decide (o.num.1 = 0 ∧ o.num.2 = 0) && decide (o.ref.1 = 0 ∧ o.ref.2 = 0) && decide (o.value.size = 0) && dotsMay o.dots o.deps) else if o.kind = 4 then (decide (o.num.1 = 0 ∧ o.num.2 = 0) && decide (o.dots.length = 0) && (decide (o.ref.1 = 0 ∧ o.ref.2 = 0) || vHas o.deps o.ref)) else if o.kind = 5 then (decide (o.num.1 = 0 ∧ o.num.2 = 0) && decide (o.dots.length = 0) && decide (o.value.size = 0) && vHas o.deps o.ref) else false) := by
  unfold ownMay opBare
  rw [show decide (o.ref = (0, 0)) = decide (o.ref.1 = 0 ∧ o.ref.2 = 0) from decide_eq_decide.2 ⟨fun e => by rw [e]; exact ⟨rfl, rfl⟩, fun e => Prod.ext e.1 e.2⟩]
  exact tail_bool _ _ _ _ _ _ h _ _ _
set_option maxHeartbeats 16000000 in
set_option maxRecDepth 100000 in
theorem refOpMay_ok {w : World} {o : OpV} {vd vo : Value} (hR : OpR w o vd vo) (hb : OpB o) (n : Int) :
    Calls Tryz.prog 30 #[opval o vd vo, .int .i64 n] w fun e w' => e = .returned (.bool (opMay o n)) ∧ Frm No w w' := by
  obtain ⟨ad, cd, rfl⟩ := hR.d.sh
  obtain ⟨ao, co, rfl⟩ := hR.s.sh
  obtain ⟨B, hBq⟩ : ∃ B : Bool, Hid (B = opMay o n) := ⟨_, Lib.hid rfl⟩
  rw [← hBq.out]
  obtain ⟨k, hk⟩ : ∃ k, Hid (k = o.kind) := ⟨_, Lib.hid rfl⟩
  obtain ⟨nd, hnd⟩ : ∃ k, Hid (k = o.dots.length) := ⟨_, Lib.hid rfl⟩
  have hov : ∀ d, opval o d (.slice ao nd co) = .agg #[.int .i64 o.dot.1, .int .i64 o.dot.2, .int .i64 o.time, d, .int .i64 k, .string o.type, .string o.id, .string o.field, .string o.value, .int .i64 o.num.1, .int .i64 o.num.2, .int .i64 o.ref.1, .int .i64 o.ref.2, .slice ao nd co] := by intro d; unfold opval opCells; rw [hk.out]
  rw [← hnd.out, hov]
  rw [← hnd.out] at hR
  have HOV := Lib.hid hov
  have HR := Lib.hid hR
  have HB := Lib.hid hb
  clear hR hb hov
  have B0 : (w.alloc (.cells #[.int .i64 o.dot.1, .int .i64 o.dot.2, .int .i64 o.time, .slice ad o.deps.length cd, .int .i64 k, .string o.type, .string o.id, .string o.field, .string o.value, .int .i64 o.num.1, .int .i64 o.num.2, .int .i64 o.ref.1, .int .i64 o.ref.2, .slice ao nd co] 35 (0, 0))).drew.heap[w.heap.size]? = some (.cells #[.int .i64 o.dot.1, .int .i64 o.dot.2, .int .i64 o.time, .slice ad o.deps.length cd, .int .i64 k, .string o.type, .string o.id, .string o.field, .string o.value, .int .i64 o.num.1, .int .i64 o.num.2, .int .i64 o.ref.1, .int .i64 o.ref.2, .slice ao nd co] 35 (0, 0)) := (Frm.drew No _).obj (heap_alloc_new w (.cells #[.int .i64 o.dot.1, .int .i64 o.dot.2, .int .i64 o.time, .slice ad o.deps.length cd, .int .i64 k, .string o.type, .string o.id, .string o.field, .string o.value, .int .i64 o.num.1, .int .i64 o.num.2, .int .i64 o.ref.1, .int .i64 o.ref.2, .slice ao nd co] 35 (0, 0))) id
  have F0 : Frm No w (w.alloc (.cells #[.int .i64 o.dot.1, .int .i64 o.dot.2, .int .i64 o.time, .slice ad o.deps.length cd, .int .i64 k, .string o.type, .string o.id, .string o.field, .string o.value, .int .i64 o.num.1, .int .i64 o.num.2, .int .i64 o.ref.1, .int .i64 o.ref.2, .slice ao nd co] 35 (0, 0))).drew := ((Frm.refl No w).al _).trans (Frm.drew No _)
  have HM := Lib.hid (fun W => refDotMay_ok o.dot n W)
  have HV := Lib.hid (fun W (f : Frm No w W) => refVecMay_ok (HR.out.no f).d n)
  go_enter Tryz.func30, Tryz.ntmps30
  go_wp2_with (fail)
  simp only [List.append_eq, List.cons_append, List.nil_append]
  refine wp_region_plan [([0, 1, 2, 3, 4, 5, 6, 7, 8, 9, 10, 11, 12, 13, 14, 15, 16, 17, 18, 19, 20, 21, 22, 23, 24, 25, 26, 27, 28, 29, 30, 31, 32, 33], [29, 27, 24]), ([34, 35, 36, 37, 38, 39, 40, 41, 42, 43, 44, 45, 46, 47, 48, 49, 50, 51, 52, 53, 54, 55, 56, 57, 58, 59, 60, 61, 62, 63, 64, 65], [])] 170 (by kernel_rfl) (by kernel_rfl) (by simp) ?_
  intro N hN
  simp only [wpSegs, List.map_cons, List.map_nil, List.getD_cons_zero, List.getD_cons_succ]
  go_wp2_with (fail)
  refine (HM.out _).mono ?_
  rintro e w1 ⟨rfl, f1⟩
  have F1 := F0.trans f1
  have B1 := f1.obj B0 id
  clear f1 F0 B0 HM
  rcases h1 : dotMayN o.dot n with _ | _
  · have hv : Hid (B = false) := Lib.hid (by rw [hBq.out]; unfold opMay; rw [h1]; rfl)
    go_wp2_with (fail)
    refine ⟨again_cons (again_off rfl rfl) (again_cons (again_off rfl rfl) (again_cons (again_off rfl rfl) again_nil)), ?_⟩
    go_wp2_with (fail)
    go_ret
    exact ⟨congrArg (fun b => Ending.returned (Value.bool b)) hv.out.symm, F1⟩
  have H1 := Lib.hid h1
  obtain ⟨q0, q1, q2, q3, q4, q5, q6, q7, q8, q9, q10, q11, q12, q13⟩ := obj14 B1
  have nb := lt_of_block B1
  by_cases ht1 : 1 ≤ o.time
  case neg =>
    have ht1' : o.time < 1 := by omega
    have hv : Hid (B = false) := Lib.hid (by rw [hBq.out]; unfold opMay; rw [H1.out, show timeMay o.time = false from decide_eq_false fun h => ht1 h.1]; rfl)
    clear ht1
    go_wp2_with (fail)
    refine ⟨again_cons (again_off rfl rfl) (again_cons (again_off rfl rfl) (again_cons (again_off rfl rfl) again_nil)), ?_⟩
    go_wp2_with (fail)
    go_ret
    exact ⟨congrArg (fun b => Ending.returned (Value.bool b)) hv.out.symm, F1⟩
  have ht1' : ¬ o.time < 1 := by omega
  by_cases ht2 : o.time ≤ 16777215
  case neg =>
    have ht2' : (16777215 : Int) < o.time := by omega
    have hv : Hid (B = false) := Lib.hid (by rw [hBq.out]; unfold opMay; rw [H1.out, show timeMay o.time = false from decide_eq_false fun h => ht2 h.2]; rfl)
    clear ht2
    go_wp2_with (fail)
    refine ⟨again_cons (again_off rfl rfl) (again_cons (again_off rfl rfl) (again_cons (again_off rfl rfl) again_nil)), ?_⟩
    go_wp2_with (fail)
    go_ret
    exact ⟨congrArg (fun b => Ending.returned (Value.bool b)) hv.out.symm, F1⟩
  have ht2' : ¬ (16777215 : Int) < o.time := by omega
  have H2 : Hid (timeMay o.time = true) := Lib.hid (decide_eq_true ⟨ht1, ht2⟩)
  clear ht1 ht2 h1
  go_wp2_with (fail)
  refine (HV.out _ F1).mono ?_
  rintro e w' ⟨rfl, rfl⟩
  rcases h3 : vecMay o.deps n with _ | _
  · have hv : Hid (B = false) := Lib.hid (by rw [hBq.out]; unfold opMay; rw [H1.out, H2.out, h3]; rfl)
    go_wp2_with (fail)
    refine ⟨again_cons (again_off rfl rfl) (again_cons (again_off rfl rfl) (again_cons (again_off rfl rfl) again_nil)), ?_⟩
    go_wp2_with (fail)
    go_ret
    exact ⟨congrArg (fun b => Ending.returned (Value.bool b)) hv.out.symm, F1⟩
  have H3 := Lib.hid h3
  clear h3
  have hd := of_decide_eq_true H1.out
  have hlen := vecMay_len H3.out
  obtain ⟨j, hj⟩ : ∃ j : Nat, o.dot.1 = j := ⟨o.dot.1.toNat, by omega⟩
  have l1 : j < o.deps.length := by omega
  obtain ⟨b, off, hao, hb, hc⟩ := (HR.out.no F1).d.at l1
  obtain rfl := hao
  have e0 : w1.cell? ⟨b, off + j, none⟩ = some (.int .i64 o.deps[j]) := by have := hc 0 _ rfl; rwa [show j * eInt.k + 0 = j from Nat.mul_one j] at this
  clear hc
  have hgd : o.deps.getD o.dot.1.toNat 0 = o.deps[j] := by rw [hj]; exact gd l1
  obtain ⟨x, hx⟩ : ∃ x, Hid (x = o.deps[j]) := ⟨_, Lib.hid rfl⟩
  rw [← hx.out] at e0 hgd
  have HGD := Lib.hid hgd
  obtain ⟨s, hs⟩ : ∃ s, Hid (s = o.dot.2) := ⟨_, Lib.hid rfl⟩
  have hs1 : 1 ≤ s ∧ s ≤ 1048575 := by rw [hs.out]; exact ⟨hd.2.2.2.1, hd.2.2.2.2⟩
  rw [← hs.out] at q1
  rw [hj] at q0
  have HJ := Lib.hid hj
  have kn : (j : Int) < o.deps.length := by omega
  clear hgd hd hlen hj
  by_cases h4 : x = s - 1
  case neg =>
    have hv : Hid (B = false) := Lib.hid (by rw [hBq.out]; unfold opMay; rw [H1.out, H2.out, H3.out, HGD.out, ← hs.out, decide_eq_false h4]; rfl)
    go_wp2_with (fail)
    refine ⟨again_cons (again_of rfl rfl ?_) (again_cons (again_of rfl rfl ?_) (again_cons (again_of rfl rfl ?_) again_nil)), ?_⟩
    · go_simp
    · go_simp
    · go_simp
    go_wp2_with (fail)
    go_ret
    exact ⟨congrArg (fun b => Ending.returned (Value.bool b)) hv.out.symm, F1⟩
  have H4 : Hid (decide (o.deps.getD o.dot.1.toNat 0 = o.dot.2 - 1) = true) := Lib.hid (by rw [HGD.out, ← hs.out]; exact decide_eq_true h4)
  clear HGD
  subst h4
  go_wp2_with (fail)
  refine ⟨again_cons (again_of rfl rfl ?_) (again_cons (again_of rfl rfl ?_) (again_cons (again_of rfl rfl ?_) again_nil)), ?_⟩
  · go_simp
  · go_simp
  · go_simp
  have hb := HB.out
  have c1 := Lib.hid (fun W => refName_ok o.type W (by have := hb.type; omega))
  have c2 := Lib.hid (fun W => refName_ok o.field W (by have := hb.field; omega))
  clear hb
  go_wp2_with (fail)
  refine (c1.out _).mono ?_
  rintro e w' ⟨rfl, rfl⟩
  rcases n1 : nameMay o.type with _ | _
  · have hv : Hid (B = false) := Lib.hid (by rw [hBq.out]; unfold opMay; rw [H1.out, H2.out, H3.out, H4.out, n1]; rfl)
    go_wp2_with (fail)
    go_ret
    exact ⟨congrArg (fun b => Ending.returned (Value.bool b)) hv.out.symm, F1⟩
  have N1 := Lib.hid n1
  clear n1
  go_wp2_with (fail)
  refine (c2.out _).mono ?_
  rintro e w' ⟨rfl, rfl⟩
  rcases n2 : nameMay o.field with _ | _
  · have hv : Hid (B = false) := Lib.hid (by rw [hBq.out]; unfold opMay; rw [H1.out, H2.out, H3.out, H4.out, N1.out, n2]; rfl)
    go_wp2_with (fail)
    go_ret
    exact ⟨congrArg (fun b => Ending.returned (Value.bool b)) hv.out.symm, F1⟩
  have N2 := Lib.hid n2
  clear n2
  by_cases i1 : 0 < o.id.size
  case neg =>
    have i1' : (o.id.size : Int) < 1 := by omega
    have hv : Hid (B = false) := Lib.hid (by rw [hBq.out]; unfold opMay; rw [H1.out, H2.out, H3.out, H4.out, N1.out, N2.out, show idMay o.id = false from decide_eq_false fun h => i1 h.1]; rfl)
    clear i1
    go_wp2_with (fail)
    go_ret
    exact ⟨congrArg (fun b => Ending.returned (Value.bool b)) hv.out.symm, F1⟩
  have i1' : ¬ (o.id.size : Int) < 1 := by omega
  by_cases i2 : o.id.size ≤ 256
  case neg =>
    have i2' : (256 : Int) < o.id.size := by omega
    have hv : Hid (B = false) := Lib.hid (by rw [hBq.out]; unfold opMay; rw [H1.out, H2.out, H3.out, H4.out, N1.out, N2.out, show idMay o.id = false from decide_eq_false fun h => i2 h.2]; rfl)
    clear i2
    go_wp2_with (fail)
    go_ret
    exact ⟨congrArg (fun b => Ending.returned (Value.bool b)) hv.out.symm, F1⟩
  have i2' : ¬ (256 : Int) < o.id.size := by omega
  have N3 : Hid (idMay o.id = true) := Lib.hid (decide_eq_true ⟨i1, i2⟩)
  clear i1 i2
  by_cases v1 : o.value.size ≤ 256
  case neg =>
    have v1' : (256 : Int) < o.value.size := by omega
    have hv : Hid (B = false) := Lib.hid (by rw [hBq.out]; unfold opMay; rw [H1.out, H2.out, H3.out, H4.out, N1.out, N2.out, N3.out, own_long v1]; rfl)
    clear v1
    go_wp2_with (fail)
    go_ret
    exact ⟨congrArg (fun b => Ending.returned (Value.bool b)) hv.out.symm, F1⟩
  have v1' : ¬ (256 : Int) < o.value.size := by omega
  have HT : Hid (B = (ownMay o && opBare o)) := Lib.hid (by rw [hBq.out]; unfold opMay; rw [H1.out, H2.out, H3.out, H4.out, N1.out, N2.out, N3.out]; rfl)
  have HTE := Lib.hid (own_tail v1)
  clear v1 c1 c2 hBq H4 N1 N2 N3 HV
  go_wp2_with (fail)
  have f2 := (Frm.refl No w1).al (.cells #[.int .i64 0, .int .i64 0] 32 (0, 0))
  have D2 := heap_alloc_new w1 (.cells #[.int .i64 0, .int .i64 0] 32 (0, 0))
  have B2 := f2.obj B1 id
  have F2 := (F1.trans f2).trans (Frm.drew No _)
  have E2 := fun W => eq_pair o.num.1 o.num.2 0 0 W
  have E3 := fun W => eq_dot o.ref.1 o.ref.2 0 0 W
  have d0 := obj_cell D2 0
  have d1 := obj_cell D2 1
  simp at d0 d1
  have HW1 := Lib.hid (fun W => refWithin_ok o.num.1 1099511627776 (by omega) (by omega) W)
  have HW2 := Lib.hid (fun W => refWithin_ok o.num.2 1099511627776 (by omega) (by omega) W)
  have HD := Lib.hid (fun W (f : Frm No w W) => refDots_ok' (HR.out.no f))
  simp only [HOV.out] at HD
  have HH := Lib.hid (fun W (f : Frm No w W) => refHas_ok (HR.out.no f).d o.ref)
  have hcs : k = 0 ∨ k = 2 ∨ k = 1 ∨ k = 3 ∨ k = 4 ∨ k = 5 ∨ (¬ k = 0 ∧ ¬ k = 1 ∧ ¬ k = 2 ∧ ¬ k = 3 ∧ ¬ k = 4 ∧ ¬ k = 5) := by omega
  clear q0 q1 q2 q3 q4 q5 q6 q7 q8 q9 q10 q11 q12 q13 e0 nb kn hs1
  obtain ⟨q0, q1, q2, q3, q4, q5, q6, q7, q8, q9, q10, q11, q12, q13⟩ := obj14 B2
  have nb2 := lt_of_block B2
  have nd2 := lt_of_block D2
  clear B1 D2 F1 f2
  rcases hcs with rfl | rfl | rfl | rfl | rfl | rfl | hcs
  · by_cases hN : o.num.1 = 0 ∧ o.num.2 = 0
    · rw [decide_eq_true hN] at E2
      replace hN := Lib.hid hN
      by_cases hF : o.ref.1 = 0 ∧ o.ref.2 = 0
      · rw [decide_eq_true hF] at E3
        replace hF := Lib.hid hF
        by_cases hD : nd = 0
        · subst hD
          have hD : Hid (o.dots.length = 0) := Lib.hid hnd.out.symm
          refine wp_still_drew (by kernel_rfl) (by kernel_rfl) ?_
          repeat still_step
          refine wpStill_nil ?_
          go_wp2_with (fail)
          go_ret
          exact ⟨congrArg (fun b => Ending.returned (Value.bool b)) ((HT.out.trans (HTE.out.trans (by simp only [← hk.out, decide_eq_true hN.out, decide_eq_true hF.out, decide_eq_true hD.out]; simp))).symm), F2⟩
        · have hD0 : ((nd : Int) == 0) = false := by simp; omega
          have hD1 : ¬ (nd : Int) = 0 := by omega
          replace hD : Hid (¬ o.dots.length = 0) := Lib.hid (by rw [← hnd.out]; exact hD)
          refine wp_still_drew (by kernel_rfl) (by kernel_rfl) ?_
          repeat still_step
          refine wpStill_nil ?_
          go_wp2_with (fail)
          go_ret
          exact ⟨congrArg (fun b => Ending.returned (Value.bool b)) ((HT.out.trans (HTE.out.trans (by simp only [← hk.out, decide_eq_false hD.out]; simp))).symm), F2⟩
      · rw [decide_eq_false hF] at E3
        replace hF := Lib.hid hF
        refine wp_still_drew (by kernel_rfl) (by kernel_rfl) ?_
        repeat still_step
        refine wpStill_nil ?_
        go_wp2_with (fail)
        go_ret
        exact ⟨congrArg (fun b => Ending.returned (Value.bool b)) ((HT.out.trans (HTE.out.trans (by simp only [← hk.out, decide_eq_false hF.out]; simp))).symm), F2⟩
    · rw [decide_eq_false hN] at E2
      replace hN := Lib.hid hN
      refine wp_still_drew (by kernel_rfl) (by kernel_rfl) ?_
      repeat still_step
      refine wpStill_nil ?_
      go_wp2_with (fail)
      go_ret
      exact ⟨congrArg (fun b => Ending.returned (Value.bool b)) ((HT.out.trans (HTE.out.trans (by simp only [← hk.out, decide_eq_false hN.out]; simp))).symm), F2⟩
  · by_cases hN : o.num.1 = 0 ∧ o.num.2 = 0
    · rw [decide_eq_true hN] at E2
      replace hN := Lib.hid hN
      by_cases hF : o.ref.1 = 0 ∧ o.ref.2 = 0
      · rw [decide_eq_true hF] at E3
        replace hF := Lib.hid hF
        by_cases hD : nd = 0
        · subst hD
          have hD : Hid (o.dots.length = 0) := Lib.hid hnd.out.symm
          refine wp_still_drew (by kernel_rfl) (by kernel_rfl) ?_
          repeat still_step
          refine wpStill_nil ?_
          go_wp2_with (fail)
          go_ret
          exact ⟨congrArg (fun b => Ending.returned (Value.bool b)) ((HT.out.trans (HTE.out.trans (by simp only [← hk.out, decide_eq_true hN.out, decide_eq_true hF.out, decide_eq_true hD.out]; simp))).symm), F2⟩
        · have hD0 : ((nd : Int) == 0) = false := by simp; omega
          have hD1 : ¬ (nd : Int) = 0 := by omega
          replace hD : Hid (¬ o.dots.length = 0) := Lib.hid (by rw [← hnd.out]; exact hD)
          refine wp_still_drew (by kernel_rfl) (by kernel_rfl) ?_
          repeat still_step
          refine wpStill_nil ?_
          go_wp2_with (fail)
          go_ret
          exact ⟨congrArg (fun b => Ending.returned (Value.bool b)) ((HT.out.trans (HTE.out.trans (by simp only [← hk.out, decide_eq_false hD.out]; simp))).symm), F2⟩
      · rw [decide_eq_false hF] at E3
        replace hF := Lib.hid hF
        refine wp_still_drew (by kernel_rfl) (by kernel_rfl) ?_
        repeat still_step
        refine wpStill_nil ?_
        go_wp2_with (fail)
        go_ret
        exact ⟨congrArg (fun b => Ending.returned (Value.bool b)) ((HT.out.trans (HTE.out.trans (by simp only [← hk.out, decide_eq_false hF.out]; simp))).symm), F2⟩
    · rw [decide_eq_false hN] at E2
      replace hN := Lib.hid hN
      refine wp_still_drew (by kernel_rfl) (by kernel_rfl) ?_
      repeat still_step
      refine wpStill_nil ?_
      go_wp2_with (fail)
      go_ret
      exact ⟨congrArg (fun b => Ending.returned (Value.bool b)) ((HT.out.trans (HTE.out.trans (by simp only [← hk.out, decide_eq_false hN.out]; simp))).symm), F2⟩
  · by_cases hF : o.ref.1 = 0 ∧ o.ref.2 = 0
    · rw [decide_eq_true hF] at E3
      replace hF := Lib.hid hF
      by_cases hD : nd = 0
      · subst hD
        have hD : Hid (o.dots.length = 0) := Lib.hid hnd.out.symm
        by_cases hV : o.value.size = 0
        · have hve : o.value.toList.isEmpty = true := by rw [ba_nil hV, ByteArray.toList_eq]; rfl
          replace hV := Lib.hid hV
          by_cases w1a : -1099511627776 ≤ o.num.1 ∧ o.num.1 ≤ 1099511627776
          · rw [decide_eq_true w1a] at HW1
            by_cases w2a : -1099511627776 ≤ o.num.2 ∧ o.num.2 ≤ 1099511627776
            · rw [decide_eq_true w2a] at HW2
              have HNM : Hid (numMay o.num = true) := Lib.hid (decide_eq_true ⟨w1a, w2a⟩)
              clear w1a w2a
              refine wp_still_drew (by kernel_rfl) (by kernel_rfl) ?_
              repeat still_step
              refine wpStill_nil ?_
              go_wp2_with (fail)
              refine (HW1.out _).mono ?_
              rintro e w' ⟨rfl, rfl⟩
              go_wp2_with (fail)
              refine (HW2.out _).mono ?_
              rintro e w' ⟨rfl, rfl⟩
              go_wp2_with (fail)
              go_ret
              exact ⟨congrArg (fun b => Ending.returned (Value.bool b)) ((HT.out.trans (HTE.out.trans (by simp only [← hk.out, HNM.out, decide_eq_true hF.out, decide_eq_true hD.out, decide_eq_true hV.out]; simp))).symm), F2⟩
            · rw [decide_eq_false w2a] at HW2
              have HNM : Hid (numMay o.num = false) := Lib.hid (decide_eq_false fun h => w2a h.2)
              clear w1a w2a
              refine wp_still_drew (by kernel_rfl) (by kernel_rfl) ?_
              repeat still_step
              refine wpStill_nil ?_
              go_wp2_with (fail)
              refine (HW1.out _).mono ?_
              rintro e w' ⟨rfl, rfl⟩
              go_wp2_with (fail)
              refine (HW2.out _).mono ?_
              rintro e w' ⟨rfl, rfl⟩
              go_wp2_with (fail)
              go_ret
              exact ⟨congrArg (fun b => Ending.returned (Value.bool b)) ((HT.out.trans (HTE.out.trans (by simp only [← hk.out, HNM.out]; simp))).symm), F2⟩
          · rw [decide_eq_false w1a] at HW1
            have HNM : Hid (numMay o.num = false) := Lib.hid (decide_eq_false fun h => w1a h.1)
            clear w1a
            refine wp_still_drew (by kernel_rfl) (by kernel_rfl) ?_
            repeat still_step
            refine wpStill_nil ?_
            go_wp2_with (fail)
            refine (HW1.out _).mono ?_
            rintro e w' ⟨rfl, rfl⟩
            go_wp2_with (fail)
            go_ret
            exact ⟨congrArg (fun b => Ending.returned (Value.bool b)) ((HT.out.trans (HTE.out.trans (by simp only [← hk.out, HNM.out]; simp))).symm), F2⟩
        · have hve := ba_pos hV
          replace hV := Lib.hid hV
          refine wp_still_drew (by kernel_rfl) (by kernel_rfl) ?_
          repeat still_step
          refine wpStill_nil ?_
          go_wp2_with (fail)
          go_ret
          exact ⟨congrArg (fun b => Ending.returned (Value.bool b)) ((HT.out.trans (HTE.out.trans (by simp only [← hk.out, decide_eq_false hV.out]; simp))).symm), F2⟩
      · have hD0 : ((nd : Int) == 0) = false := by simp; omega
        have hD1 : ¬ (nd : Int) = 0 := by omega
        replace hD : Hid (¬ o.dots.length = 0) := Lib.hid (by rw [← hnd.out]; exact hD)
        refine wp_still_drew (by kernel_rfl) (by kernel_rfl) ?_
        repeat still_step
        refine wpStill_nil ?_
        go_wp2_with (fail)
        go_ret
        exact ⟨congrArg (fun b => Ending.returned (Value.bool b)) ((HT.out.trans (HTE.out.trans (by simp only [← hk.out, decide_eq_false hD.out]; simp))).symm), F2⟩
    · rw [decide_eq_false hF] at E3
      replace hF := Lib.hid hF
      refine wp_still_drew (by kernel_rfl) (by kernel_rfl) ?_
      repeat still_step
      refine wpStill_nil ?_
      go_wp2_with (fail)
      go_ret
      exact ⟨congrArg (fun b => Ending.returned (Value.bool b)) ((HT.out.trans (HTE.out.trans (by simp only [← hk.out, decide_eq_false hF.out]; simp))).symm), F2⟩
  · by_cases hN : o.num.1 = 0 ∧ o.num.2 = 0
    · rw [decide_eq_true hN] at E2
      replace hN := Lib.hid hN
      by_cases hF : o.ref.1 = 0 ∧ o.ref.2 = 0
      · rw [decide_eq_true hF] at E3
        replace hF := Lib.hid hF
        by_cases hV : o.value.size = 0
        · have hve : o.value.toList.isEmpty = true := by rw [ba_nil hV, ByteArray.toList_eq]; rfl
          replace hV := Lib.hid hV
          obtain ⟨X, hX⟩ : ∃ X, Hid (X = dotsMay o.dots o.deps) := ⟨_, Lib.hid rfl⟩
          simp only [← hX.out] at HD
          refine wp_still_drew (by kernel_rfl) (by kernel_rfl) ?_
          repeat still_step
          refine wpStill_nil ?_
          go_wp2_with (fail)
          refine (HD.out _ F2).mono ?_
          rintro e w3 ⟨rfl, f3⟩
          go_wp2_with (fail)
          go_ret
          exact ⟨congrArg (fun b => Ending.returned (Value.bool b)) ((HT.out.trans (HTE.out.trans (by simp only [← hk.out, ← hX.out, decide_eq_true hN.out, decide_eq_true hF.out, decide_eq_true hV.out]; simp))).symm), (F2.trans f3)⟩
        · have hve := ba_pos hV
          replace hV := Lib.hid hV
          refine wp_still_drew (by kernel_rfl) (by kernel_rfl) ?_
          repeat still_step
          refine wpStill_nil ?_
          go_wp2_with (fail)
          go_ret
          exact ⟨congrArg (fun b => Ending.returned (Value.bool b)) ((HT.out.trans (HTE.out.trans (by simp only [← hk.out, decide_eq_false hV.out]; simp))).symm), F2⟩
      · rw [decide_eq_false hF] at E3
        replace hF := Lib.hid hF
        refine wp_still_drew (by kernel_rfl) (by kernel_rfl) ?_
        repeat still_step
        refine wpStill_nil ?_
        go_wp2_with (fail)
        go_ret
        exact ⟨congrArg (fun b => Ending.returned (Value.bool b)) ((HT.out.trans (HTE.out.trans (by simp only [← hk.out, decide_eq_false hF.out]; simp))).symm), F2⟩
    · rw [decide_eq_false hN] at E2
      replace hN := Lib.hid hN
      refine wp_still_drew (by kernel_rfl) (by kernel_rfl) ?_
      repeat still_step
      refine wpStill_nil ?_
      go_wp2_with (fail)
      go_ret
      exact ⟨congrArg (fun b => Ending.returned (Value.bool b)) ((HT.out.trans (HTE.out.trans (by simp only [← hk.out, decide_eq_false hN.out]; simp))).symm), F2⟩
  · by_cases hN : o.num.1 = 0 ∧ o.num.2 = 0
    · rw [decide_eq_true hN] at E2
      replace hN := Lib.hid hN
      by_cases hD : nd = 0
      · subst hD
        have hD : Hid (o.dots.length = 0) := Lib.hid hnd.out.symm
        by_cases hF : o.ref.1 = 0 ∧ o.ref.2 = 0
        · rw [decide_eq_true hF] at E3
          replace hF := Lib.hid hF
          refine wp_still_drew (by kernel_rfl) (by kernel_rfl) ?_
          repeat still_step
          refine wpStill_nil ?_
          go_wp2_with (fail)
          go_ret
          exact ⟨congrArg (fun b => Ending.returned (Value.bool b)) ((HT.out.trans (HTE.out.trans (by simp only [← hk.out, decide_eq_true hN.out, decide_eq_true hD.out, decide_eq_true hF.out]; simp))).symm), F2⟩
        · rw [decide_eq_false hF] at E3
          replace hF := Lib.hid hF
          obtain ⟨X, hX⟩ : ∃ X, Hid (X = vHas o.deps o.ref) := ⟨_, Lib.hid rfl⟩
          simp only [← hX.out] at HH
          refine wp_still_drew (by kernel_rfl) (by kernel_rfl) ?_
          repeat still_step
          refine wpStill_nil ?_
          go_wp2_with (fail)
          refine (HH.out _ F2).mono ?_
          rintro e w3 ⟨rfl, f3⟩
          go_wp2_with (fail)
          go_ret
          exact ⟨congrArg (fun b => Ending.returned (Value.bool b)) ((HT.out.trans (HTE.out.trans (by simp only [← hk.out, ← hX.out, decide_eq_true hN.out, decide_eq_true hD.out, decide_eq_false hF.out]; simp))).symm), (F2.trans f3)⟩
      · have hD0 : ((nd : Int) == 0) = false := by simp; omega
        have hD1 : ¬ (nd : Int) = 0 := by omega
        replace hD : Hid (¬ o.dots.length = 0) := Lib.hid (by rw [← hnd.out]; exact hD)
        refine wp_still_drew (by kernel_rfl) (by kernel_rfl) ?_
        repeat still_step
        refine wpStill_nil ?_
        go_wp2_with (fail)
        go_ret
        exact ⟨congrArg (fun b => Ending.returned (Value.bool b)) ((HT.out.trans (HTE.out.trans (by simp only [← hk.out, decide_eq_false hD.out]; simp))).symm), F2⟩
    · rw [decide_eq_false hN] at E2
      replace hN := Lib.hid hN
      refine wp_still_drew (by kernel_rfl) (by kernel_rfl) ?_
      repeat still_step
      refine wpStill_nil ?_
      go_wp2_with (fail)
      go_ret
      exact ⟨congrArg (fun b => Ending.returned (Value.bool b)) ((HT.out.trans (HTE.out.trans (by simp only [← hk.out, decide_eq_false hN.out]; simp))).symm), F2⟩
  · by_cases hN : o.num.1 = 0 ∧ o.num.2 = 0
    · rw [decide_eq_true hN] at E2
      replace hN := Lib.hid hN
      by_cases hD : nd = 0
      · subst hD
        have hD : Hid (o.dots.length = 0) := Lib.hid hnd.out.symm
        by_cases hV : o.value.size = 0
        · have hve : o.value.toList.isEmpty = true := by rw [ba_nil hV, ByteArray.toList_eq]; rfl
          replace hV := Lib.hid hV
          obtain ⟨X, hX⟩ : ∃ X, Hid (X = vHas o.deps o.ref) := ⟨_, Lib.hid rfl⟩
          simp only [← hX.out] at HH
          refine wp_still_drew (by kernel_rfl) (by kernel_rfl) ?_
          repeat still_step
          refine wpStill_nil ?_
          go_wp2_with (fail)
          refine (HH.out _ F2).mono ?_
          rintro e w3 ⟨rfl, f3⟩
          go_wp2_with (fail)
          go_ret
          exact ⟨congrArg (fun b => Ending.returned (Value.bool b)) ((HT.out.trans (HTE.out.trans (by simp only [← hk.out, ← hX.out, decide_eq_true hN.out, decide_eq_true hD.out, decide_eq_true hV.out]; simp))).symm), (F2.trans f3)⟩
        · have hve := ba_pos hV
          replace hV := Lib.hid hV
          refine wp_still_drew (by kernel_rfl) (by kernel_rfl) ?_
          repeat still_step
          refine wpStill_nil ?_
          go_wp2_with (fail)
          go_ret
          exact ⟨congrArg (fun b => Ending.returned (Value.bool b)) ((HT.out.trans (HTE.out.trans (by simp only [← hk.out, decide_eq_false hV.out]; simp))).symm), F2⟩
      · have hD0 : ((nd : Int) == 0) = false := by simp; omega
        have hD1 : ¬ (nd : Int) = 0 := by omega
        replace hD : Hid (¬ o.dots.length = 0) := Lib.hid (by rw [← hnd.out]; exact hD)
        refine wp_still_drew (by kernel_rfl) (by kernel_rfl) ?_
        repeat still_step
        refine wpStill_nil ?_
        go_wp2_with (fail)
        go_ret
        exact ⟨congrArg (fun b => Ending.returned (Value.bool b)) ((HT.out.trans (HTE.out.trans (by simp only [← hk.out, decide_eq_false hD.out]; simp))).symm), F2⟩
    · rw [decide_eq_false hN] at E2
      replace hN := Lib.hid hN
      refine wp_still_drew (by kernel_rfl) (by kernel_rfl) ?_
      repeat still_step
      refine wpStill_nil ?_
      go_wp2_with (fail)
      go_ret
      exact ⟨congrArg (fun b => Ending.returned (Value.bool b)) ((HT.out.trans (HTE.out.trans (by simp only [← hk.out, decide_eq_false hN.out]; simp))).symm), F2⟩
  · obtain ⟨k0, k1, k2, k3, k4, k5⟩ := hcs
    refine wp_still_drew (by kernel_rfl) (by kernel_rfl) ?_
    repeat still_step
    refine wpStill_nil ?_
    go_wp2_with (fail)
    go_ret
    exact ⟨congrArg (fun b => Ending.returned (Value.bool b)) ((HT.out.trans (HTE.out.trans (by rw [← hk.out]; rw [if_neg (by omega), if_neg k1, if_neg k3, if_neg k4, if_neg k5]))).symm), F2⟩
end Go.Proofs.YtofikfkgiblblaaGreatDoor

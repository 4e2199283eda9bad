/- Merged: OpM3 OpM4 Cnt2. -/
import Derived.Test.YtofikfkgiblblaaGreatDoorQ24
import Derived.Test.YtofikfkgiblblaaGreatDoorQ28
/- Layer 11: operations: op.own, op.bare, op.Kind. -/
namespace Go.Proofs.YtofikfkgiblblaaGreatDoor
set_option linter.unusedVariables false
set_option linter.unusedSimpArgs false
set_option linter.unusedVariables false
set_option linter.unusedSimpArgs false
open Go.RowKit Go.Lib Go.Tt
structure OpV where
  dot : Dt
  time : Int
  deps : List Int
  kind : Int
  type : ByteArray
  id : ByteArray
  field : ByteArray
  value : ByteArray
  num : Int × Int
  ref : Dt
  dots : List Dt
/-- An operation's cells: its two slices are given. -/
def opCells (o : OpV) (vd vo : Value) : Array Value := #[.int .i64 o.dot.1, .int .i64 o.dot.2, .int .i64 o.time, vd, .int .i64 o.kind, .string o.type, .string o.id, .string o.field, .string o.value, .int .i64 o.num.1, .int .i64 o.num.2, .int .i64 o.ref.1, .int .i64 o.ref.2, vo]
def opval (o : OpV) (vd vo : Value) : Value := .agg (opCells o vd vo)
/-- An operation's slices read. -/
structure OpR (w : World) (o : OpV) (vd vo : Value) : Prop where
  d : RdS w eInt vd o.deps
  s : RdS w eDt vo o.dots
/-- An operation's texts are no longer than a text may be. -/
structure OpB (o : OpV) : Prop where
  type : o.type.size ≤ 2 ^ 63 - 1
  id : o.id.size ≤ 2 ^ 63 - 1
  field : o.field.size ≤ 2 ^ 63 - 1
  value : o.value.size ≤ 2 ^ 63 - 1
theorem OpR.no {w w' : World} {o : OpV} {vd vo : Value} (h : OpR w o vd vo) (f : Frm No w w') : OpR w' o vd vo := ⟨h.d.no f, h.s.no f⟩
theorem obj14 {w : World} {b : Nat} {c0 c1 c2 c3 c4 c5 c6 c7 c8 c9 c10 c11 c12 c13 : Value} {t : Nat} {fz : Nat × Nat} (h : w.heap[b]? = some (.cells #[c0, c1, c2, c3, c4, c5, c6, c7, c8, c9, c10, c11, c12, c13] t fz)) :
    w.cell? ⟨b, 0, none⟩ = some c0 ∧ w.cell? ⟨b, 1, none⟩ = some c1 ∧ w.cell? ⟨b, 2, none⟩ = some c2 ∧ w.cell? ⟨b, 3, none⟩ = some c3 ∧ w.cell? ⟨b, 4, none⟩ = some c4 ∧ w.cell? ⟨b, 5, none⟩ = some c5 ∧ w.cell? ⟨b, 6, none⟩ = some c6 ∧ w.cell? ⟨b, 7, none⟩ = some c7 ∧ w.cell? ⟨b, 8, none⟩ = some c8 ∧ w.cell? ⟨b, 9, none⟩ = some c9 ∧ w.cell? ⟨b, 10, none⟩ = some c10 ∧ w.cell? ⟨b, 11, none⟩ = some c11 ∧ w.cell? ⟨b, 12, none⟩ = some c12 ∧ w.cell? ⟨b, 13, none⟩ = some c13 :=
  ⟨obj_cell h 0, obj_cell h 1, obj_cell h 2, obj_cell h 3, obj_cell h 4, obj_cell h 5, obj_cell h 6, obj_cell h 7, obj_cell h 8, obj_cell h 9, obj_cell h 10, obj_cell h 11, obj_cell h 12, obj_cell h 13⟩
/-- May that be what an operation's kind names? -/
def ownMay (o : OpV) : Bool :=
  if o.kind = 0 ∨ o.kind = 2 then decide (o.value.size ≤ 256)
  else if o.kind = 1 then numMay o.num
  else if o.kind = 3 then dotsMay o.dots o.deps
  else if o.kind = 4 then decide (o.value.size ≤ 256) && (decide (o.ref = (0, 0)) || vHas o.deps o.ref)
  else if o.kind = 5 then vHas o.deps o.ref
  else false
set_option maxHeartbeats 1000000 in
set_option maxRecDepth 100000 in
theorem own_ok {w : World} {b : Nat} {o : OpV} {vd vo : Value} (hB : w.heap[b]? = some (.cells (opCells o vd vo) 35 (0, 0))) (hR : OpR w o vd vo) (hv : o.value.size ≤ 2 ^ 63 - 1) :
    Calls Tryz.prog 64 #[.pointer (some ⟨b, 0, none⟩)] w fun e w' => e = .returned (.bool (ownMay o)) ∧ Frm No w w' := by
  obtain ⟨ad, cd, rfl⟩ := hR.d.sh
  obtain ⟨ao, co, rfl⟩ := hR.s.sh
  obtain ⟨B, hBq⟩ : ∃ B : Bool, Hid (B = ownMay o) := ⟨_, Lib.hid rfl⟩
  rw [← hBq.out]
  obtain ⟨q0, q1, q2, q3, q4, q5, q6, q7, q8, q9, q10, q11, q12, q13⟩ := obj14 (show w.heap[b]? = some (.cells #[.int .i64 o.dot.1, .int .i64 o.dot.2, .int .i64 o.time, .slice ad o.deps.length cd, .int .i64 o.kind, .string o.type, .string o.id, .string o.field, .string o.value, .int .i64 o.num.1, .int .i64 o.num.2, .int .i64 o.ref.1, .int .i64 o.ref.2, .slice ao o.dots.length co] 35 (0, 0)) from hB)
  have nb := lt_of_block hB
  have HB := Lib.hid hB
  have HR := Lib.hid hR
  clear hB hR q0 q1 q2 q5 q6 q7
  have HM := Lib.hid (fun W => lwwValue_ok o.value W hv)
  by_cases k0 : o.kind = 0 ∨ o.kind = 2
  · have hq : Hid (B = decide (o.value.size ≤ 256)) := Lib.hid (by rw [hBq.out]; exact if_pos k0)
    rcases k0 with k | k
    all_goals
      rw [k] at q4
      have hK := Lib.hid k
      clear k
      go_enter Tryz.func64, Tryz.ntmps64
      go_wp2_with (fail)
      refine (HM.out _).mono ?_
      rintro e w1 ⟨rfl, rfl⟩
      go_wp2_with (fail)
      go_ret
      exact ⟨congrArg (fun b => Ending.returned (Value.bool b)) hq.out.symm, Frm.refl _ _⟩
  by_cases k1 : o.kind = 1
  · have hq : Hid (B = numMay o.num) := Lib.hid (by rw [hBq.out]; unfold ownMay; rw [if_neg k0, if_pos k1])
    rw [k1] at q4
    clear k0 k1
    have HN := Lib.hid (fun W => opNum_ok o.num W)
    go_enter Tryz.func64, Tryz.ntmps64
    go_wp2_with (fail)
    refine (HN.out _).mono ?_
    rintro e w1 ⟨rfl, f1⟩
    go_wp2_with (fail)
    go_ret
    exact ⟨congrArg (fun b => Ending.returned (Value.bool b)) hq.out.symm, f1⟩
  by_cases k3 : o.kind = 3
  · have hq : Hid (B = dotsMay o.dots o.deps) := Lib.hid (by rw [hBq.out]; unfold ownMay; rw [if_neg k0, if_neg k1, if_pos k3])
    rw [k3] at q4
    clear k0 k1 k3
    go_enter Tryz.func64, Tryz.ntmps64
    go_wp2_with (fail)
    refine wp_region_plan [([0, 1, 2, 3, 4, 5, 6, 7, 8, 9], [])] 70 (by kernel_rfl) (by kernel_rfl) (by simp) ?_
    intro N hN
    simp only [wpSegs, List.map_cons, List.map_nil, List.getD_cons_zero, List.getD_cons_succ]
    go_wp2_with (fail)
    have R1 := HR.out.no (Frm.drewN No w 1)
    refine (opDots_ok R1.s R1.d).mono ?_
    rintro e w1 ⟨rfl, f1⟩
    go_wp2_with (fail)
    go_ret
    exact ⟨congrArg (fun b => Ending.returned (Value.bool b)) hq.out.symm, ((Frm.refl No w).dr 1).trans f1⟩
  by_cases k4 : o.kind = 4
  · have hq : Hid (B = (decide (o.value.size ≤ 256) && (decide (o.ref = (0, 0)) || vHas o.deps o.ref))) := Lib.hid (by rw [hBq.out]; unfold ownMay; rw [if_neg k0, if_neg k1, if_neg k3, if_pos k4])
    rw [k4] at q4
    clear k0 k1 k3 k4
    have hz : ¬ o.ref = (0, 0) → (¬ o.ref.1 = 0 ∨ ¬ o.ref.2 = 0) := fun h => by
      by_cases h1 : o.ref.1 = 0
      · exact .inr fun h2 => h (Prod.ext h1 h2)
      · exact .inl h1
    have HZ := Lib.hid hz
    clear hz
    rcases hs : decide (o.value.size ≤ 256) with _ | _
    · rw [hs] at HM hq
      clear hs
      go_enter Tryz.func64, Tryz.ntmps64
      go_wp2_with (fail)
      refine wp_region_plan [([0, 1, 2, 3, 4, 5, 6, 7, 8, 9, 10], [9]), ([11, 12, 13, 14, 15, 16, 17, 18, 19, 20, 21, 22, 23, 24], [])] 70 (by kernel_rfl) (by kernel_rfl) (by simp) ?_
      intro N hN
      simp only [wpSegs, List.map_cons, List.map_nil, List.getD_cons_zero, List.getD_cons_succ]
      go_wp2_with (fail)
      refine (HM.out _).mono ?_
      rintro e w1 ⟨rfl, rfl⟩
      go_wp2_with (fail)
      refine ⟨again_cons (again_off rfl rfl) again_nil, ?_⟩
      go_wp2_with (fail)
      go_ret
      exact ⟨congrArg (fun b => Ending.returned (Value.bool b)) hq.out.symm, (Frm.refl No w).dr 1⟩
    · rw [hs] at HM hq
      clear hs
      by_cases hr : o.ref = (0, 0)
      · have hq' : Hid (B = true) := Lib.hid (by rw [hq.out, decide_eq_true hr]; rfl)
        have r1 : o.ref.1 = 0 := by rw [hr]
        have r2 : o.ref.2 = 0 := by rw [hr]
        rw [r1] at q11
        rw [r2] at q12
        have hRR := Lib.hid hr
        clear hr r1 r2
        go_enter Tryz.func64, Tryz.ntmps64
        go_wp2_with (fail)
        refine wp_region_plan [([0, 1, 2, 3, 4, 5, 6, 7, 8, 9, 10], [9]), ([11, 12, 13, 14, 15, 16, 17, 18, 19, 20, 21, 22, 23, 24], [])] 70 (by kernel_rfl) (by kernel_rfl) (by simp) ?_
        intro N hN
        simp only [wpSegs, List.map_cons, List.map_nil, List.getD_cons_zero, List.getD_cons_succ]
        go_wp2_with (fail)
        refine (HM.out _).mono ?_
        rintro e w1 ⟨rfl, rfl⟩
        go_wp2_with (fail)
        refine ⟨again_cons (again_of rfl rfl ?_) again_nil, ?_⟩
        · go_simp
        go_wp2_with (fail)
        go_ret
        exact ⟨congrArg (fun b => Ending.returned (Value.bool b)) hq'.out.symm, (Frm.refl No w).dr 1⟩
      · have hq' : Hid (B = vHas o.deps o.ref) := Lib.hid (by rw [hq.out, decide_eq_false hr]; rfl)
        have HH := Lib.hid (fun W (f : Frm No w W) => has_ok (HR.out.no f).d o.ref)
        rcases HZ.out hr with r1 | r1
        · have hRR := Lib.hid hr
          clear hr
          go_enter Tryz.func64, Tryz.ntmps64
          go_wp2_with (fail)
          refine wp_region_plan [([0, 1, 2, 3, 4, 5, 6, 7, 8, 9, 10], [9]), ([11, 12, 13, 14, 15, 16, 17, 18, 19, 20, 21, 22, 23, 24], [])] 70 (by kernel_rfl) (by kernel_rfl) (by simp) ?_
          intro N hN
          simp only [wpSegs, List.map_cons, List.map_nil, List.getD_cons_zero, List.getD_cons_succ]
          go_wp2_with (fail)
          refine (HM.out _).mono ?_
          rintro e w1 ⟨rfl, rfl⟩
          go_wp2_with (fail)
          refine ⟨again_cons (again_of rfl rfl ?_) again_nil, ?_⟩
          · go_simp
          go_wp2_with (fail)
          refine (HH.out _ ((Frm.refl No w).dr 1)).mono ?_
          rintro e w1 ⟨rfl, f1⟩
          go_wp2_with (fail)
          go_ret
          exact ⟨congrArg (fun b => Ending.returned (Value.bool b)) hq'.out.symm, ((Frm.refl No w).dr 1).trans f1⟩
        · have hRR := Lib.hid hr
          clear hr
          go_enter Tryz.func64, Tryz.ntmps64
          go_wp2_with (fail)
          refine wp_region_plan [([0, 1, 2, 3, 4, 5, 6, 7, 8, 9, 10], [9]), ([11, 12, 13, 14, 15, 16, 17, 18, 19, 20, 21, 22, 23, 24], [])] 70 (by kernel_rfl) (by kernel_rfl) (by simp) ?_
          intro N hN
          simp only [wpSegs, List.map_cons, List.map_nil, List.getD_cons_zero, List.getD_cons_succ]
          go_wp2_with (fail)
          refine (HM.out _).mono ?_
          rintro e w1 ⟨rfl, rfl⟩
          go_wp2_with (fail)
          refine ⟨again_cons (again_of rfl rfl ?_) again_nil, ?_⟩
          · go_simp
          go_wp2_with (fail)
          all_goals
            refine (HH.out _ ((Frm.refl No w).dr 1)).mono ?_
            rintro e w1 ⟨rfl, f1⟩
            go_wp2_with (fail)
            go_ret
            exact ⟨congrArg (fun b => Ending.returned (Value.bool b)) hq'.out.symm, ((Frm.refl No w).dr 1).trans f1⟩
  by_cases k5 : o.kind = 5
  · have hq : Hid (B = vHas o.deps o.ref) := Lib.hid (by rw [hBq.out]; unfold ownMay; rw [if_neg k0, if_neg k1, if_neg k3, if_neg k4, if_pos k5])
    rw [k5] at q4
    clear k0 k1 k3 k4 k5
    go_enter Tryz.func64, Tryz.ntmps64
    go_wp2_with (fail)
    refine wp_region_plan [([0, 1, 2, 3, 4, 5, 6, 7, 8, 9], [])] 70 (by kernel_rfl) (by kernel_rfl) (by simp) ?_
    intro N hN
    simp only [wpSegs, List.map_cons, List.map_nil, List.getD_cons_zero, List.getD_cons_succ]
    go_wp2_with (fail)
    refine (has_ok (HR.out.no (Frm.drewN No w 1)).d o.ref).mono ?_
    rintro e w1 ⟨rfl, f1⟩
    go_wp2_with (fail)
    go_ret
    exact ⟨congrArg (fun b => Ending.returned (Value.bool b)) hq.out.symm, ((Frm.refl No w).dr 1).trans f1⟩
  · have hq : Hid (B = false) := Lib.hid (by rw [hBq.out]; unfold ownMay; rw [if_neg k0, if_neg k1, if_neg k3, if_neg k4, if_neg k5])
    have h0 : ¬ o.kind = 0 := fun h => k0 (.inl h)
    have h2 : ¬ o.kind = 2 := fun h => k0 (.inr h)
    clear k0
    go_enter Tryz.func64, Tryz.ntmps64
    go_wp2_with (fail)
    go_ret
    exact ⟨congrArg (fun b => Ending.returned (Value.bool b)) hq.out.symm, Frm.refl _ _⟩
end Go.Proofs.YtofikfkgiblblaaGreatDoor

/- Layer 11: op.bare, op.Kind, op.May. -/
namespace Go.Proofs.YtofikfkgiblblaaGreatDoor
set_option linter.unusedVariables false
set_option linter.unusedSimpArgs false
open Go.RowKit Go.Lib Go.Tt
/-- Is all zero but what an operation's kind names? -/
def opBare (o : OpV) : Bool := decide (((o.kind = 0 ∨ o.kind = 2 ∨ o.kind = 4) ∨ o.value.size = 0) ∧ (o.kind = 1 ∨ o.num.1 = 0 ∧ o.num.2 = 0) ∧ ((o.kind = 4 ∨ o.kind = 5) ∨ o.ref.1 = 0 ∧ o.ref.2 = 0) ∧ (o.kind = 3 ∨ o.dots.length = 0))
theorem ba_nil {s : ByteArray} (h : s.size = 0) : s = ⟨#[]⟩ := by
  have : s.data = #[] := Array.eq_empty_of_size_eq_zero h
  exact ByteArray.ext this
theorem ba_pos {s : ByteArray} (h : ¬ s.size = 0) : s.toList.isEmpty = false := by
  rw [ByteArray.toList_eq]
  cases e : s.data.toList with
  | nil => have : s.data.toList.length = 0 := by rw [e]; rfl
           have e : s.data.toList.length = s.size := Array.length_toList
           omega
  | cons a b => rfl
set_option maxHeartbeats 1000000 in
set_option maxRecDepth 100000 in
theorem opBare_ok {w : World} {b : Nat} {o : OpV} {vd vo : Value} (hB : w.heap[b]? = some (.cells (opCells o vd vo) 35 (0, 0))) (hR : OpR w o vd vo) :
    Calls Tryz.prog 65 #[.pointer (some ⟨b, 0, none⟩)] w fun e w' => e = .returned (.bool (opBare o)) ∧ w = w' := by
  obtain ⟨ad, cd, rfl⟩ := hR.d.sh
  obtain ⟨ao, co, rfl⟩ := hR.s.sh
  have hl := hR.s.facts
  obtain ⟨B, hBq⟩ : ∃ B : Bool, Hid (B = opBare o) := ⟨_, Lib.hid rfl⟩
  rw [← hBq.out]
  obtain ⟨q0, q1, q2, q3, q4, q5, q6, q7, q8, q9, q10, q11, q12, q13⟩ := obj14 (show w.heap[b]? = some (.cells #[.int .i64 o.dot.1, .int .i64 o.dot.2, .int .i64 o.time, .slice ad o.deps.length cd, .int .i64 o.kind, .string o.type, .string o.id, .string o.field, .string o.value, .int .i64 o.num.1, .int .i64 o.num.2, .int .i64 o.ref.1, .int .i64 o.ref.2, .slice ao o.dots.length co] 35 (0, 0)) from hB)
  have nb := lt_of_block hB
  clear hB hR q0 q1 q2 q3 q5 q6 q7
  obtain ⟨k, hk⟩ : ∃ k, Hid (k = o.kind) := ⟨_, Lib.hid rfl⟩
  rw [← hk.out] at q4
  obtain ⟨nd, hnd⟩ : ∃ nd, Hid (nd = o.dots.length) := ⟨_, Lib.hid rfl⟩
  rw [← hnd.out] at q13
  clear hl
  have hcs : k = 0 ∨ k = 1 ∨ k = 2 ∨ k = 3 ∨ k = 4 ∨ k = 5 ∨ (¬ k = 0 ∧ ¬ k = 1 ∧ ¬ k = 2 ∧ ¬ k = 3 ∧ ¬ k = 4 ∧ ¬ k = 5) := by omega
  by_cases hv : o.value.size = 0
  · have hv' := ba_nil hv
    rw [hv'] at q8
    have HV := Lib.hid hv
    clear hv hv'
    rcases hcs with rfl | rfl | rfl | rfl | rfl | rfl | ⟨k0, k1, k2, k3, k4, k5⟩
    all_goals
      go_enter Tryz.func65, Tryz.ntmps65
      go_wp2_with (fail)
      all_goals go_ret
      all_goals refine ⟨congrArg (fun b => Ending.returned (Value.bool b)) ?_, rfl⟩
      all_goals rw [hBq.out]
      all_goals unfold opBare
      all_goals have hk := hk.out
      all_goals have hnd := hnd.out
      all_goals have hv := HV.out
      all_goals first | exact dec_f (by omega) | exact dec_t (by omega) | exact dec_d (by omega) | (rw [Bool.eq_iff_iff]; simp only [Bool.or_eq_true, Bool.and_eq_true, beq_iff_eq, decide_eq_true_iff]; omega) | (rw [Bool.eq_iff_iff]; simp; omega)
  · have hv' := ba_pos hv
    have HV := Lib.hid hv
    clear hv
    rcases hcs with rfl | rfl | rfl | rfl | rfl | rfl | ⟨k0, k1, k2, k3, k4, k5⟩
    all_goals
      go_enter Tryz.func65, Tryz.ntmps65
      go_wp2_with (fail)
      all_goals go_ret
      all_goals refine ⟨congrArg (fun b => Ending.returned (Value.bool b)) ?_, rfl⟩
      all_goals rw [hBq.out]
      all_goals unfold opBare
      all_goals have hk := hk.out
      all_goals have hnd := hnd.out
      all_goals have hv := HV.out
      all_goals first | exact dec_f (by omega) | exact dec_t (by omega) | exact dec_d (by omega) | (rw [Bool.eq_iff_iff]; simp only [Bool.or_eq_true, Bool.and_eq_true, beq_iff_eq, decide_eq_true_iff]; omega) | (rw [Bool.eq_iff_iff]; simp; omega)
/-- Of which kind is a cell that an operation is for? -/
def kindOf (o : OpV) : Int := if o.kind = 0 then 0 else if o.kind = 1 then 1 else if o.kind = 2 ∨ o.kind = 3 then 2 else if o.kind = 4 ∨ o.kind = 5 then 3 else -1
theorem opKind_ok {w : World} (o : OpV) (vd vo : Value) :
    Calls Tryz.prog 28 #[opval o vd vo] w fun e w' => e = .returned (.int .i64 (kindOf o)) ∧ Frm No w w' := by
  obtain ⟨B, hBq⟩ : ∃ B : Int, Hid (B = kindOf o) := ⟨_, Lib.hid rfl⟩
  rw [← hBq.out]
  obtain ⟨k, hk⟩ : ∃ k, Hid (k = o.kind) := ⟨_, Lib.hid rfl⟩
  unfold opval opCells
  rw [← hk.out]
  have hcs : k = 0 ∨ k = 1 ∨ k = 2 ∨ k = 3 ∨ k = 4 ∨ k = 5 ∨ (¬ k = 0 ∧ ¬ k = 1 ∧ ¬ k = 2 ∧ ¬ k = 3 ∧ ¬ k = 4 ∧ ¬ k = 5) := by omega
  rcases hcs with rfl | rfl | rfl | rfl | rfl | rfl | ⟨k0, k1, k2, k3, k4, k5⟩
  all_goals
    go_enter Tryz.func28, Tryz.ntmps28
    go_wp2_with (fail)
    go_ret
    refine ⟨congrArg (fun b => Ending.returned (Value.int .i64 b)) ?_, (Frm.refl No w).al _⟩
    have hk := hk.out
    rw [hBq.out]
    unfold kindOf
    repeat' split
    all_goals omega
end Go.Proofs.YtofikfkgiblblaaGreatDoor

/- Layers 6: gauss.Add. -/
namespace Go.Proofs.YtofikfkgiblblaaGreatDoor
set_option linter.unusedVariables false
set_option linter.unusedSimpArgs false
open Go.RowKit Go.Lib Go.Tt Go.Shelf
/-- The sum of two pairs. -/
def addPair (a b : Int × Int) : (Int × Int) × Int := if pairMay a = true ∧ pairMay b = true ∧ pairMay (a.1 + b.1, a.2 + b.2) = true then ((a.1 + b.1, a.2 + b.2), 0) else ((0, 0), 600)
def clampP (p : Int × Int) : Int × Int := if pairMay p = true then p else (0, 0)
theorem clampP_bd (p : Int × Int) : (-4503599627370496 ≤ (clampP p).1 ∧ (clampP p).1 ≤ 4503599627370496) ∧ -4503599627370496 ≤ (clampP p).2 ∧ (clampP p).2 ≤ 4503599627370496 := by
  unfold clampP
  by_cases h : pairMay p = true
  · rw [if_pos h]; exact of_decide_eq_true h
  · rw [if_neg h]; exact ⟨⟨by decide, by decide⟩, by decide, by decide⟩
theorem number_ok (p : Int × Int) (w : World) :
    Calls Tryz.prog 83 #[.agg #[.int .i64 p.1, .int .i64 p.2]] w fun e w' => e = .returned (.tuple #[.complex .f64 (fl (clampP p).1) (fl (clampP p).2), .bool (pairMay p)]) ∧ Frm No w w' := by
  rcases h : pairMay p with _ | _
  · have e : clampP p = (0, 0) := by unfold clampP; rw [if_neg (by rw [h]; decide)]
    rw [e]
    have e0 : fl 0 = 0 := by decide +kernel
    rw [show fl ((0, 0) : Int × Int).1 = 0 from e0]
    exact number_no h w
  · have e : clampP p = p := by unfold clampP; rw [if_pos h]
    rw [e]
    exact number_yes h w
theorem inPart_pair (a b : Int) : (inPart a && inPart b) = pairMay (a, b) := by
  unfold inPart pairMay
  rw [← Bool.decide_and]
set_option maxHeartbeats 1000000 in
set_option maxRecDepth 100000 in
theorem gaussAdd_ok (a b : Int × Int) (w : World) :
    Calls Tryz.prog 106 #[.agg #[.int .i64 a.1, .int .i64 a.2], .agg #[.int .i64 b.1, .int .i64 b.2]] w fun e w' => e = .returned (.tuple #[.agg #[.int .i64 (addPair a b).1.1, .int .i64 (addPair a b).1.2], .int .i64 (addPair a b).2]) ∧ Frm No w w' := by
  have ha := clampP_bd a
  have hb := clampP_bd b
  obtain ⟨z1, s1, o1, p1, t1⟩ := fl_sum ha.1 hb.1
  obtain ⟨z2, s2, o2, p2, t2⟩ := fl_sum ha.2 hb.2
  have hs : ∀ W, (binOp .add 110 (.complex .f64 (fl (clampP a).1) (fl (clampP a).2)) (.complex .f64 (fl (clampP b).1) (fl (clampP b).2))).run Tryz.prog W = .ok (.complex .f64 z1 z2) W := fun W =>
    run_complex_sum W .add (.inl rfl) 110 .f64 _ _ _ _ z1 z2 (by
      unfold cSumBits floatBits
      simp only [s1, s2, Option.bind_some])
  have n1 := Lib.hid (fun W => number_ok a W)
  have n2 := Lib.hid (fun W => number_ok b W)
  have hm := Lib.hid (fun W => gmay_ok o1 p1 o2 p2 W)
  have T1 := Lib.hid t1
  have T2 := Lib.hid t2
  obtain ⟨fa1, hfa1⟩ : ∃ x, Hid (x = fl (clampP a).1) := ⟨_, Lib.hid rfl⟩
  obtain ⟨fa2, hfa2⟩ : ∃ x, Hid (x = fl (clampP a).2) := ⟨_, Lib.hid rfl⟩
  obtain ⟨fb1, hfb1⟩ : ∃ x, Hid (x = fl (clampP b).1) := ⟨_, Lib.hid rfl⟩
  obtain ⟨fb2, hfb2⟩ : ∃ x, Hid (x = fl (clampP b).2) := ⟨_, Lib.hid rfl⟩
  rw [← hfa1.out, ← hfa2.out] at hs n1
  rw [← hfb1.out, ← hfb2.out] at hs n2
  clear s1 s2 o1 p1 o2 p2 t1 t2 hfa1 hfa2 hfb1 hfb2 ha hb
  obtain ⟨R, hR⟩ : ∃ R, Hid (R = addPair a b) := ⟨_, Lib.hid rfl⟩
  have HA : pairMay a = true → clampP a = a := fun h => if_pos h
  have HB : pairMay b = true → clampP b = b := fun h => if_pos h
  have HA := Lib.hid HA
  have HB := Lib.hid HB
  have hbad : (pairMay a = false ∨ pairMay b = false ∨ pairMay (a.1 + b.1, a.2 + b.2) = false) → R = ((0, 0), 600) := by
    intro h
    rw [hR.out]
    exact if_neg fun e => by
      rcases h with h | h | h
      · rw [e.1] at h; cases h
      · rw [e.2.1] at h; cases h
      · rw [e.2.2] at h; cases h
  have HBAD := Lib.hid hbad
  clear hbad
  rw [← hR.out]
  go_enter Tryz.func106, Tryz.ntmps106
  go_wp2_with (fail)
  refine (n1.out _).mono ?_
  rintro e w1 ⟨rfl, f1⟩
  have F1 : Frm No w w1 := ((((Frm.refl No w).al _).al _).al _).trans f1
  have B1 : w1.heap[w.heap.size + 1]? = some (.cells #[.int .i64 b.1, .int .i64 b.2] 25 (0, 0)) := f1.obj (al_old (al_at (by simp))) id
  have C1 : w1.heap[w.heap.size + 2]? = some (.cells #[.int .i64 0, .int .i64 0] 25 (0, 0)) := f1.obj (al_at (by simp)) id
  have b0 : w1.cell? ⟨w.heap.size + 1, 0, none⟩ = some (.int .i64 b.1) := obj_cell B1 0
  have b1 : w1.cell? ⟨w.heap.size + 1, 1, none⟩ = some (.int .i64 b.2) := obj_cell B1 1
  clear f1 n1
  go_wp2_with (fail)
  refine (n2.out _).mono ?_
  rintro e w2 ⟨rfl, f2⟩
  have F2 := F1.trans f2
  have C2 := f2.obj C1 id
  have z0 := obj_frz C2
  have c0 : w2.cell? ⟨w.heap.size + 2, 0, none⟩ = some (.int .i64 0) := obj_cell C2 0
  have c1 : w2.cell? ⟨w.heap.size + 2, 1, none⟩ = some (.int .i64 0) := obj_cell C2 1
  have nC := lt_of_block C2
  clear f2 n2 b0 b1 B1 C1 F1
  rcases hpa : pairMay a with _ | _
  · have hv := Lib.hid (HBAD.out (.inl hpa))
    go_wp2_with (fail)
    refine bodyPost_ret (v := .tuple #[.agg #[.int .i64 0, .int .i64 0], .int .i64 600]) (by simp [results, Tryz.results106, go_sem, *]) rfl ?_
    rw [hv.out]
    exact ⟨rfl, (F2.st (by omega) _ _).st (by omega) _ _⟩
  rcases hpb : pairMay b with _ | _
  · have hv := Lib.hid (HBAD.out (.inr (.inl hpb)))
    have HPA := Lib.hid hpa
    go_wp2_with (fail)
    refine bodyPost_ret (v := .tuple #[.agg #[.int .i64 0, .int .i64 0], .int .i64 600]) (by simp [results, Tryz.results106, go_sem, *]) rfl ?_
    rw [hv.out]
    exact ⟨rfl, (F2.st (by omega) _ _).st (by omega) _ _⟩
  rw [HA.out hpa, HB.out hpb] at hm T1 T2
  rw [inPart_pair] at hm
  rcases hpc : pairMay (a.1 + b.1, a.2 + b.2) with _ | _
  · have hv := Lib.hid (HBAD.out (.inr (.inr hpc)))
    rw [hpc] at hm
    clear hpc
    go_wp2_with (fail)
    refine (hm.out _).mono ?_
    rintro e w' ⟨rfl, rfl⟩
    go_wp2_with (fail)
    refine bodyPost_ret (v := .tuple #[.agg #[.int .i64 0, .int .i64 0], .int .i64 600]) (by simp [results, Tryz.results106, go_sem, *]) rfl ?_
    rw [hv.out]
    exact ⟨rfl, (F2.st (by omega) _ _).st (by omega) _ _⟩
  · have hd := of_decide_eq_true hpc
    have hv : Hid (R = ((a.1 + b.1, a.2 + b.2), 0)) := Lib.hid (by rw [hR.out]; exact if_pos ⟨hpa, hpb, hpc⟩)
    have hp := Lib.hid (fun W => gpair_ok (T1.out hd.1.1 hd.1.2) (T2.out hd.2.1 hd.2.2) hd.1 hd.2 W)
    rw [hpc] at hm
    clear hpc hd
    go_wp2_with (fail)
    refine (hm.out _).mono ?_
    rintro e w' ⟨rfl, rfl⟩
    go_wp2_with (fail)
    refine (hp.out _).mono ?_
    rintro e w3 ⟨rfl, f3⟩
    have F3 := F2.trans f3
    have C3 := f3.obj C2 id
    clear z0 c0 c1 nC
    have z0 := obj_frz C3
    have c0 : w3.cell? ⟨w.heap.size + 2, 0, none⟩ = some (.int .i64 0) := obj_cell C3 0
    have c1 : w3.cell? ⟨w.heap.size + 2, 1, none⟩ = some (.int .i64 0) := obj_cell C3 1
    have nC := lt_of_block C3
    obtain ⟨x, hx⟩ : ∃ x, Hid (x = a.1 + b.1) := ⟨_, Lib.hid rfl⟩
    obtain ⟨y, hy⟩ : ∃ y, Hid (y = a.2 + b.2) := ⟨_, Lib.hid rfl⟩
    rw [← hx.out, ← hy.out] at hv
    rw [← hx.out, ← hy.out]
    clear hp hm
    go_wp2_with (fail)
    refine bodyPost_ret (v := .tuple #[.agg #[.int .i64 x, .int .i64 y], .int .i64 0]) (by simp [results, Tryz.results106, go_sem, *]) rfl ?_
    rw [hv.out]
    exact ⟨rfl, (F3.st (by omega) _ _).st (by omega) _ _⟩
end Go.Proofs.YtofikfkgiblblaaGreatDoor

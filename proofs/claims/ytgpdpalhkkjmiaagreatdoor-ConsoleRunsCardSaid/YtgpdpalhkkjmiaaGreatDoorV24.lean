/- Merged: OpM3 OpM4 RefS Blk5. -/
import Derived.Test.YtgpdpalhkkjmiaaGreatDoorV03
import Derived.Test.YtgpdpalhkkjmiaaGreatDoorV14
import Derived.Test.YtgpdpalhkkjmiaaGreatDoorV15
import Derived.Test.YtgpdpalhkkjmiaaGreatDoorV19
/- Layer 11: operations: op.own, op.bare, op.Kind. -/
namespace Go.Proofs.YtgpdpalhkkjmiaaGreatDoor
set_option linter.unusedVariables false
set_option linter.unusedSimpArgs false
set_option linter.unusedVariables false
set_option linter.unusedSimpArgs false
open Go.RowKit Go.Lib Go.Tt
structure OpV where
  dot : Dt
  time : Int
  deps : List Int
  kind : Int
  type : ByteArray
  id : ByteArray
  field : ByteArray
  value : ByteArray
  num : Int × Int
  ref : Dt
  dots : List Dt
/-- An operation's cells: its two slices are given. -/
def opCells (o : OpV) (vd vo : Value) : Array Value := #[.int .i64 o.dot.1, .int .i64 o.dot.2, .int .i64 o.time, vd, .int .i64 o.kind, .string o.type, .string o.id, .string o.field, .string o.value, .int .i64 o.num.1, .int .i64 o.num.2, .int .i64 o.ref.1, .int .i64 o.ref.2, vo]
def opval (o : OpV) (vd vo : Value) : Value := .agg (opCells o vd vo)
/-- An operation's slices read. -/
structure OpR (w : World) (o : OpV) (vd vo : Value) : Prop where
  d : RdS w eInt vd o.deps
  s : RdS w eDt vo o.dots
/-- An operation's texts are no longer than a text may be. -/
structure OpB (o : OpV) : Prop where
  type : o.type.size ≤ 2 ^ 63 - 1
  id : o.id.size ≤ 2 ^ 63 - 1
  field : o.field.size ≤ 2 ^ 63 - 1
  value : o.value.size ≤ 2 ^ 63 - 1
theorem OpR.no {w w' : World} {o : OpV} {vd vo : Value} (h : OpR w o vd vo) (f : Frm No w w') : OpR w' o vd vo := ⟨h.d.no f, h.s.no f⟩
theorem obj14 {w : World} {b : Nat} {c0 c1 c2 c3 c4 c5 c6 c7 c8 c9 c10 c11 c12 c13 : Value} {t : Nat} {fz : Nat × Nat} (h : w.heap[b]? = some (.cells #[c0, c1, c2, c3, c4, c5, c6, c7, c8, c9, c10, c11, c12, c13] t fz)) :
    w.cell? ⟨b, 0, none⟩ = some c0 ∧ w.cell? ⟨b, 1, none⟩ = some c1 ∧ w.cell? ⟨b, 2, none⟩ = some c2 ∧ w.cell? ⟨b, 3, none⟩ = some c3 ∧ w.cell? ⟨b, 4, none⟩ = some c4 ∧ w.cell? ⟨b, 5, none⟩ = some c5 ∧ w.cell? ⟨b, 6, none⟩ = some c6 ∧ w.cell? ⟨b, 7, none⟩ = some c7 ∧ w.cell? ⟨b, 8, none⟩ = some c8 ∧ w.cell? ⟨b, 9, none⟩ = some c9 ∧ w.cell? ⟨b, 10, none⟩ = some c10 ∧ w.cell? ⟨b, 11, none⟩ = some c11 ∧ w.cell? ⟨b, 12, none⟩ = some c12 ∧ w.cell? ⟨b, 13, none⟩ = some c13 :=
  ⟨obj_cell h 0, obj_cell h 1, obj_cell h 2, obj_cell h 3, obj_cell h 4, obj_cell h 5, obj_cell h 6, obj_cell h 7, obj_cell h 8, obj_cell h 9, obj_cell h 10, obj_cell h 11, obj_cell h 12, obj_cell h 13⟩
/-- May that be what an operation's kind names? -/
def ownMay (o : OpV) : Bool :=
  if o.kind = 0 ∨ o.kind = 2 then decide (o.value.size ≤ 256)
  else if o.kind = 1 then numMay o.num
  else if o.kind = 3 then dotsMay o.dots o.deps
  else if o.kind = 4 then decide (o.value.size ≤ 256) && (decide (o.ref = (0, 0)) || vHas o.deps o.ref)
  else if o.kind = 5 then vHas o.deps o.ref
  else false
end Go.Proofs.YtgpdpalhkkjmiaaGreatDoor

/- Layer 11: op.bare, op.Kind, op.May. -/
namespace Go.Proofs.YtgpdpalhkkjmiaaGreatDoor
set_option linter.unusedVariables false
set_option linter.unusedSimpArgs false
open Go.RowKit Go.Lib Go.Tt
/-- Is all zero but what an operation's kind names? -/
def opBare (o : OpV) : Bool := decide (((o.kind = 0 ∨ o.kind = 2 ∨ o.kind = 4) ∨ o.value.size = 0) ∧ (o.kind = 1 ∨ o.num.1 = 0 ∧ o.num.2 = 0) ∧ ((o.kind = 4 ∨ o.kind = 5) ∨ o.ref.1 = 0 ∧ o.ref.2 = 0) ∧ (o.kind = 3 ∨ o.dots.length = 0))
theorem ba_nil {s : ByteArray} (h : s.size = 0) : s = ⟨#[]⟩ := by
  have : s.data = #[] := Array.eq_empty_of_size_eq_zero h
  exact ByteArray.ext this
theorem ba_pos {s : ByteArray} (h : ¬ s.size = 0) : s.toList.isEmpty = false := by
  rw [ByteArray.toList_eq]
  cases e : s.data.toList with
  | nil => have : s.data.toList.length = 0 := by rw [e]; rfl
           have e : s.data.toList.length = s.size := Array.length_toList
           omega
  | cons a b => rfl
/-- Of which kind is a cell that an operation is for? -/
def kindOf (o : OpV) : Int := if o.kind = 0 then 0 else if o.kind = 1 then 1 else if o.kind = 2 ∨ o.kind = 3 then 2 else if o.kind = 4 ∨ o.kind = 5 then 3 else -1
end Go.Proofs.YtgpdpalhkkjmiaaGreatDoor

/- The reference's small ones: Less, within, PairMay, AddPair, KindOf. -/
namespace Go.Proofs.YtgpdpalhkkjmiaaGreatDoor
set_option linter.unusedVariables false
set_option linter.unusedSimpArgs false
open Go.RowKit Go.Lib Go.Tt Go.Shelf
set_option maxRecDepth 100000 in
theorem refLess_ok (a b : Dt) (w : World) : Calls Tryz.prog 59 #[.agg #[.int .i64 a.1, .int .i64 a.2], .agg #[.int .i64 b.1, .int .i64 b.2]] w fun e w' => e = .returned (.bool (dotLess a b)) ∧ Frm No w w' := by
  go_enter Tryz.func59, Tryz.ntmps59
  go_wp2
  all_goals go_ret
  all_goals exact ⟨congrArg (fun b => Ending.returned (Value.bool b)) (by unfold dotLess; first | exact dec_f (by omega) | exact dec_t (by omega) | exact dec_d (by omega)), ((Frm.refl No w).al _).al _⟩
set_option maxRecDepth 100000 in
theorem refWithin_ok (x m : Int) (h0 : 0 ≤ m) (h1 : m ≤ 4611686018427387904) (w : World) : Calls Tryz.prog 116 #[.int .i64 x, .int .i64 m] w fun e w' => e = .returned (.bool (decide (-m ≤ x ∧ x ≤ m))) ∧ w = w' := by
  have hn : IntKind.i64.wrap (-m) = -m := by rw [IntKind.wrap_i64]; omega
  by_cases hx : -m ≤ x
  · go_enter Tryz.func116, Tryz.ntmps116
    go_wp2
    all_goals go_ret
    all_goals exact ⟨congrArg (fun b => Ending.returned (Value.bool b)) (by first | exact dec_f (by omega) | exact dec_t (by omega) | exact dec_d (by omega)), rfl⟩
  · go_enter Tryz.func116, Tryz.ntmps116
    go_wp2
    all_goals go_ret
    all_goals exact ⟨congrArg (fun b => Ending.returned (Value.bool b)) (by symm; rw [decide_eq_false (show ¬ (-m ≤ x) by omega)]; rfl), rfl⟩
set_option maxRecDepth 100000 in
theorem refPairMay_ok (p : Int × Int) (w : World) : Calls Tryz.prog 80 #[.agg #[.int .i64 p.1, .int .i64 p.2]] w fun e w' => e = .returned (.bool (pairMay p)) ∧ Frm No w w' := by
  have W1 := Lib.hid (fun W => refWithin_ok p.1 4503599627370496 (by omega) (by omega) W)
  have W2 := Lib.hid (fun W => refWithin_ok p.2 4503599627370496 (by omega) (by omega) W)
  obtain ⟨B1, h1⟩ : ∃ B, Hid (B = decide (-4503599627370496 ≤ p.1 ∧ p.1 ≤ 4503599627370496)) := ⟨_, Lib.hid rfl⟩
  obtain ⟨B2, h2⟩ : ∃ B, Hid (B = decide (-4503599627370496 ≤ p.2 ∧ p.2 ≤ 4503599627370496)) := ⟨_, Lib.hid rfl⟩
  have hB : Hid (pairMay p = (B1 && B2)) := Lib.hid (by rw [h1.out, h2.out, ← Bool.decide_and]; rfl)
  rw [← h1.out] at W1
  rw [← h2.out] at W2
  rw [hB.out]
  rcases B1 with _ | _
  · go_enter Tryz.func80, Tryz.ntmps80
    go_wp2_with (fail)
    refine (W1.out _).mono ?_
    rintro e w1 ⟨rfl, rfl⟩
    go_wp2_with (fail)
    go_ret
    exact ⟨rfl, (Frm.refl No w).al _⟩
  · go_enter Tryz.func80, Tryz.ntmps80
    go_wp2_with (fail)
    refine (W1.out _).mono ?_
    rintro e w1 ⟨rfl, rfl⟩
    go_wp2_with (fail)
    refine (W2.out _).mono ?_
    rintro e w1 ⟨rfl, rfl⟩
    go_wp2_with (fail)
    go_ret
    exact ⟨rfl, (Frm.refl No w).al _⟩
theorem addPair_bad {a b : Int × Int} (h : pairMay a = false ∨ pairMay b = false ∨ pairMay (a.1 + b.1, a.2 + b.2) = false) : addPair a b = ((0, 0), 600) := by
  unfold addPair
  refine if_neg fun e => ?_
  rcases h with h | h | h
  · rw [e.1] at h; cases h
  · rw [e.2.1] at h; cases h
  · rw [e.2.2] at h; cases h
set_option maxHeartbeats 1000000 in
set_option maxRecDepth 100000 in
theorem refAddPair_ok (a b : Int × Int) (w : World) : Calls Tryz.prog 51 #[.agg #[.int .i64 a.1, .int .i64 a.2], .agg #[.int .i64 b.1, .int .i64 b.2]] w fun e w' => e = .returned (.tuple #[.agg #[.int .i64 (addPair a b).1.1, .int .i64 (addPair a b).1.2], .int .i64 (addPair a b).2]) ∧ Frm No w w' := by
  obtain ⟨R, hR⟩ : ∃ R, Hid (R = addPair a b) := ⟨_, Lib.hid rfl⟩
  rw [← hR.out]
  have W1 := Lib.hid (fun W => refPairMay_ok a W)
  have W2 := Lib.hid (fun W => refPairMay_ok b W)
  have W3 := Lib.hid (fun W => refPairMay_ok (a.1 + b.1, a.2 + b.2) W)
  have FX : Frm No w (((w.alloc (.cells #[.int .i64 a.1, .int .i64 a.2] 65 (0, 0))).alloc (.cells #[.int .i64 b.1, .int .i64 b.2] 65 (0, 0))).alloc (.cells #[.int .i64 0, .int .i64 0] 65 (0, 0))) := (((Frm.refl No w).al _).al _).al _
  have CA : (((w.alloc (.cells #[.int .i64 a.1, .int .i64 a.2] 65 (0, 0))).alloc (.cells #[.int .i64 b.1, .int .i64 b.2] 65 (0, 0))).alloc (.cells #[.int .i64 0, .int .i64 0] 65 (0, 0))).heap[w.heap.size]? = some (.cells #[.int .i64 a.1, .int .i64 a.2] 65 (0, 0)) := al_old (al_old (heap_alloc_new w _))
  have CB : (((w.alloc (.cells #[.int .i64 a.1, .int .i64 a.2] 65 (0, 0))).alloc (.cells #[.int .i64 b.1, .int .i64 b.2] 65 (0, 0))).alloc (.cells #[.int .i64 0, .int .i64 0] 65 (0, 0))).heap[w.heap.size + 1]? = some (.cells #[.int .i64 b.1, .int .i64 b.2] 65 (0, 0)) := al_old (al_at (by simp))
  have CR : (((w.alloc (.cells #[.int .i64 a.1, .int .i64 a.2] 65 (0, 0))).alloc (.cells #[.int .i64 b.1, .int .i64 b.2] 65 (0, 0))).alloc (.cells #[.int .i64 0, .int .i64 0] 65 (0, 0))).heap[w.heap.size + 1 + 1]? = some (.cells #[.int .i64 0, .int .i64 0] 65 (0, 0)) := al_at (by simp)
  rcases h1 : pairMay a with _ | _
  · rw [h1] at W1
    have e : R = ((0, 0), 600) := hR.out.trans (addPair_bad (.inl h1))
    subst e
    clear h1
    go_enter Tryz.func51, Tryz.ntmps51
    go_wp2_with (fail)
    revert FX CA CB CR
    generalize (((w.alloc (.cells #[.int .i64 a.1, .int .i64 a.2] 65 (0, 0))).alloc (.cells #[.int .i64 b.1, .int .i64 b.2] 65 (0, 0))).alloc (.cells #[.int .i64 0, .int .i64 0] 65 (0, 0))) = X
    intro FX CA CB CR
    refine (W1.out _).mono ?_
    rintro e w1 ⟨rfl, f1⟩
    replace CA := f1.obj CA id
    replace CB := f1.obj CB id
    replace CR := f1.obj CR id
    have a0 := obj_cell CA 0
    have a1 := obj_cell CA 1
    have b0 := obj_cell CB 0
    have b1 := obj_cell CB 1
    have r0 := obj_cell CR 0
    have r1 := obj_cell CR 1
    simp at a0 a1 b0 b1 r0 r1
    have hz := lt_of_block CR
    go_wp2_with (refine wpList_sto _ rfl (.tmp 4) (.tmp 15) 65 rfl CR (by kernel_rfl) (by rfl) (vs := [.int .i64 0, .int .i64 0]) (by intro u hu; simp only [List.mem_cons, List.not_mem_nil, or_false] at hu; rcases hu with rfl | rfl <;> rfl) rfl rfl ?_)
    intro w9 CR9 f9 z9
    clear a0 a1 b0 b1 r0 r1
    have r0 := obj_cell CR9 0
    have r1 := obj_cell CR9 1
    simp at r0 r1
    go_wp2_with (fail)
    refine bodyPost_ret (v := .tuple #[.agg #[.int .i64 0, .int .i64 0], .int .i64 600]) (by simp [results, Tryz.results51, go_sem, *]) rfl ?_
    exact ⟨rfl, (FX.trans f1).then f9 fun k hk e => by omega⟩
  rw [h1] at W1
  rcases h2 : pairMay b with _ | _
  · rw [h2] at W2
    have e : R = ((0, 0), 600) := hR.out.trans (addPair_bad (.inr (.inl h2)))
    subst e
    clear h1 h2
    go_enter Tryz.func51, Tryz.ntmps51
    go_wp2_with (fail)
    revert FX CA CB CR
    generalize (((w.alloc (.cells #[.int .i64 a.1, .int .i64 a.2] 65 (0, 0))).alloc (.cells #[.int .i64 b.1, .int .i64 b.2] 65 (0, 0))).alloc (.cells #[.int .i64 0, .int .i64 0] 65 (0, 0))) = X
    intro FX CA CB CR
    refine (W1.out _).mono ?_
    rintro e w1 ⟨rfl, f1⟩
    replace CA := f1.obj CA id
    replace CB := f1.obj CB id
    replace CR := f1.obj CR id
    have a0 := obj_cell CA 0
    have a1 := obj_cell CA 1
    have b0 := obj_cell CB 0
    have b1 := obj_cell CB 1
    have r0 := obj_cell CR 0
    have r1 := obj_cell CR 1
    simp at a0 a1 b0 b1 r0 r1
    have hz := lt_of_block CR
    go_wp2_with (fail)
    refine (W2.out _).mono ?_
    rintro e w2 ⟨rfl, f2⟩
    clear a0 a1 b0 b1 r0 r1 hz
    replace CA := f2.obj CA id
    replace CB := f2.obj CB id
    replace CR := f2.obj CR id
    have a0 := obj_cell CA 0
    have a1 := obj_cell CA 1
    have b0 := obj_cell CB 0
    have b1 := obj_cell CB 1
    have r0 := obj_cell CR 0
    have r1 := obj_cell CR 1
    simp at a0 a1 b0 b1 r0 r1
    have hz := lt_of_block CR
    go_wp2_with (refine wpList_sto _ rfl (.tmp 4) (.tmp 15) 65 rfl CR (by kernel_rfl) (by rfl) (vs := [.int .i64 0, .int .i64 0]) (by intro u hu; simp only [List.mem_cons, List.not_mem_nil, or_false] at hu; rcases hu with rfl | rfl <;> rfl) rfl rfl ?_)
    intro w9 CR9 f9 z9
    clear a0 a1 b0 b1 r0 r1
    have r0 := obj_cell CR9 0
    have r1 := obj_cell CR9 1
    simp at r0 r1
    go_wp2_with (fail)
    refine bodyPost_ret (v := .tuple #[.agg #[.int .i64 0, .int .i64 0], .int .i64 600]) (by simp [results, Tryz.results51, go_sem, *]) rfl ?_
    exact ⟨rfl, ((FX.trans f1).trans f2).then f9 fun k hk e => by omega⟩
  rw [h2] at W2
  have ha := of_decide_eq_true h1
  have hb := of_decide_eq_true h2
  rcases h3 : pairMay (a.1 + b.1, a.2 + b.2) with _ | _
  · rw [h3] at W3
    have e : R = ((0, 0), 600) := hR.out.trans (addPair_bad (.inr (.inr h3)))
    subst e
    clear h1 h2 h3
    go_enter Tryz.func51, Tryz.ntmps51
    go_wp2_with (fail)
    revert FX CA CB CR
    generalize (((w.alloc (.cells #[.int .i64 a.1, .int .i64 a.2] 65 (0, 0))).alloc (.cells #[.int .i64 b.1, .int .i64 b.2] 65 (0, 0))).alloc (.cells #[.int .i64 0, .int .i64 0] 65 (0, 0))) = X
    intro FX CA CB CR
    refine (W1.out _).mono ?_
    rintro e w1 ⟨rfl, f1⟩
    replace CA := f1.obj CA id
    replace CB := f1.obj CB id
    replace CR := f1.obj CR id
    have a0 := obj_cell CA 0
    have a1 := obj_cell CA 1
    have b0 := obj_cell CB 0
    have b1 := obj_cell CB 1
    have r0 := obj_cell CR 0
    have r1 := obj_cell CR 1
    simp at a0 a1 b0 b1 r0 r1
    have hz := lt_of_block CR
    go_wp2_with (fail)
    refine (W2.out _).mono ?_
    rintro e w2 ⟨rfl, f2⟩
    clear a0 a1 b0 b1 r0 r1 hz
    replace CA := f2.obj CA id
    replace CB := f2.obj CB id
    replace CR := f2.obj CR id
    have a0 := obj_cell CA 0
    have a1 := obj_cell CA 1
    have b0 := obj_cell CB 0
    have b1 := obj_cell CB 1
    have r0 := obj_cell CR 0
    have r1 := obj_cell CR 1
    simp at a0 a1 b0 b1 r0 r1
    have hz := lt_of_block CR
    go_wp2_with (fail)
    have f3 := (Frm.refl No w2).al (.cells #[.int .i64 (a.1 + b.1), .int .i64 (a.2 + b.2)] 65 (0, 0))
    refine (W3.out _).mono ?_
    rintro e w4 ⟨rfl, f4⟩
    have CC := f4.obj (heap_alloc_new w2 (.cells #[.int .i64 (a.1 + b.1), .int .i64 (a.2 + b.2)] 65 (0, 0))) id
    clear a0 a1 b0 b1 r0 r1 hz
    replace CA := f3.obj CA id
    replace CB := f3.obj CB id
    replace CR := f3.obj CR id
    replace CA := f4.obj CA id
    replace CB := f4.obj CB id
    replace CR := f4.obj CR id
    have a0 := obj_cell CA 0
    have a1 := obj_cell CA 1
    have b0 := obj_cell CB 0
    have b1 := obj_cell CB 1
    have r0 := obj_cell CR 0
    have r1 := obj_cell CR 1
    simp at a0 a1 b0 b1 r0 r1
    have hz := lt_of_block CR
    go_wp2_with (refine wpList_sto _ rfl (.tmp 4) (.tmp 30) 65 rfl CR (by kernel_rfl) (by rfl) (vs := [.int .i64 0, .int .i64 0]) (by intro u hu; simp only [List.mem_cons, List.not_mem_nil, or_false] at hu; rcases hu with rfl | rfl <;> rfl) rfl rfl ?_)
    intro w9 CR9 f9 z9
    clear a0 a1 b0 b1 r0 r1
    have r0 := obj_cell CR9 0
    have r1 := obj_cell CR9 1
    simp at r0 r1
    go_wp2_with (fail)
    refine bodyPost_ret (v := .tuple #[.agg #[.int .i64 0, .int .i64 0], .int .i64 600]) (by simp [results, Tryz.results51, go_sem, *]) rfl ?_
    exact ⟨rfl, ((((FX.trans f1).trans f2).trans f3).trans f4).then f9 fun k hk e => by omega⟩
  · rw [h3] at W3
    have e : R = ((a.1 + b.1, a.2 + b.2), 0) := hR.out.trans (if_pos ⟨h1, h2, h3⟩)
    subst e
    clear h1 h2 h3
    go_enter Tryz.func51, Tryz.ntmps51
    go_wp2_with (fail)
    revert FX CA CB CR
    generalize (((w.alloc (.cells #[.int .i64 a.1, .int .i64 a.2] 65 (0, 0))).alloc (.cells #[.int .i64 b.1, .int .i64 b.2] 65 (0, 0))).alloc (.cells #[.int .i64 0, .int .i64 0] 65 (0, 0))) = X
    intro FX CA CB CR
    refine (W1.out _).mono ?_
    rintro e w1 ⟨rfl, f1⟩
    replace CA := f1.obj CA id
    replace CB := f1.obj CB id
    replace CR := f1.obj CR id
    have a0 := obj_cell CA 0
    have a1 := obj_cell CA 1
    have b0 := obj_cell CB 0
    have b1 := obj_cell CB 1
    have r0 := obj_cell CR 0
    have r1 := obj_cell CR 1
    simp at a0 a1 b0 b1 r0 r1
    have hz := lt_of_block CR
    go_wp2_with (fail)
    refine (W2.out _).mono ?_
    rintro e w2 ⟨rfl, f2⟩
    clear a0 a1 b0 b1 r0 r1 hz
    replace CA := f2.obj CA id
    replace CB := f2.obj CB id
    replace CR := f2.obj CR id
    have a0 := obj_cell CA 0
    have a1 := obj_cell CA 1
    have b0 := obj_cell CB 0
    have b1 := obj_cell CB 1
    have r0 := obj_cell CR 0
    have r1 := obj_cell CR 1
    simp at a0 a1 b0 b1 r0 r1
    have hz := lt_of_block CR
    go_wp2_with (fail)
    have f3 := (Frm.refl No w2).al (.cells #[.int .i64 (a.1 + b.1), .int .i64 (a.2 + b.2)] 65 (0, 0))
    refine (W3.out _).mono ?_
    rintro e w4 ⟨rfl, f4⟩
    have CC := f4.obj (heap_alloc_new w2 (.cells #[.int .i64 (a.1 + b.1), .int .i64 (a.2 + b.2)] 65 (0, 0))) id
    clear a0 a1 b0 b1 r0 r1 hz
    replace CA := f3.obj CA id
    replace CB := f3.obj CB id
    replace CR := f3.obj CR id
    replace CA := f4.obj CA id
    replace CB := f4.obj CB id
    replace CR := f4.obj CR id
    have a0 := obj_cell CA 0
    have a1 := obj_cell CA 1
    have b0 := obj_cell CB 0
    have b1 := obj_cell CB 1
    have r0 := obj_cell CR 0
    have r1 := obj_cell CR 1
    simp at a0 a1 b0 b1 r0 r1
    have hz := lt_of_block CR
    have c0 := obj_cell CC 0
    have c1 := obj_cell CC 1
    simp at c0 c1
    have hzc := lt_of_block CC
    go_wp2_with (refine wpList_sto _ rfl (.tmp 4) (.tmp 31) 65 rfl CR (by kernel_rfl) (by rfl) (vs := [.int .i64 (a.1 + b.1), .int .i64 (a.2 + b.2)]) (by intro u hu; simp only [List.mem_cons, List.not_mem_nil, or_false] at hu; rcases hu with rfl | rfl <;> rfl) rfl rfl ?_)
    intro w9 CR9 f9 z9
    clear a0 a1 b0 b1 r0 r1
    have r0 := obj_cell CR9 0
    have r1 := obj_cell CR9 1
    simp at r0 r1
    go_wp2_with (fail)
    refine bodyPost_ret (v := .tuple #[.agg #[.int .i64 (a.1 + b.1), .int .i64 (a.2 + b.2)], .int .i64 0]) (by simp [results, Tryz.results51, go_sem, *]) rfl ?_
    exact ⟨rfl, ((((FX.trans f1).trans f2).trans f3).trans f4).then f9 fun k hk e => by omega⟩
end Go.Proofs.YtgpdpalhkkjmiaaGreatDoor

/- A value stored into a block that is known whole: one step, a world that is told by the block alone. No program in sight. -/
namespace Go.Tt
set_option linter.unusedVariables false
set_option linter.unusedSimpArgs false
open Go.RowKit Go.Lib
section
variable {P : Program}
theorem run_stoC (w : World) {b off : Nat} {cur : Array Value} {v : Value} {vs : List Value} {t e : TypeId} (hB : w.heap[b]? = some (.cells cur e (0, 0))) (hv : v.cells = vs.toArray) (hi : (P.info? t).map (·.size) = some vs.length) (hl : off + vs.length ≤ cur.size) (one : ∀ v ∈ vs, v.oneCell' = true) :
    (Instr.storeAt t (.pointer (some ⟨b, off, none⟩)) v).run P w = .ok () (w.setRow b (rowPut cur.toList off vs).toArray) := by
  obtain ⟨i, hi', hs⟩ := Option.map_eq_some_iff.1 hi
  have hst := run_storeCells_at P b off e vs 0 cur w hB (by omega) one
  simp only [Nat.add_zero] at hst
  simp [Instr.storeAt, Instr.sureAddr, storeVar, sizeOf, typeInfo, hi', hs, hv, hst, rowPut]
theorem wpList_stoC (w : World) {ops : Array Oper} {rest : List Oper} {o : Oper} {a : Act} {Q : Exit → Act → World → Prop} (hgd : o.guard = none) (p x : Operand) (t : TypeId) (ho : o.op = .store t p x)
    {b off : Nat} {cur : Array Value} {v : Value} {vs : List Value} {e : TypeId} (hB : w.heap[b]? = some (.cells cur e (0, 0))) (hv : v.cells = vs.toArray) (hi : (P.info? t).map (·.size) = some vs.length) (hl : off + vs.length ≤ cur.size) (one : ∀ v ∈ vs, v.oneCell' = true)
    (hp : a.eval p = .pointer (some ⟨b, off, none⟩)) (hx : a.eval x = v) (cs' : Array Value) (hcs : (rowPut cur.toList off vs).toArray = cs')
    (h : ∀ w', w'.heap[b]? = some (.cells cs' e (0, 0)) → Frm (fun k => k = b) w w' → w'.heap.size = w.heap.size → wpList P ops Q rest (a.put o.dst undef) w') : wpList P ops Q (o :: rest) a w := by
  subst hcs
  refine wpList_plain hgd fun K hK => ?_
  have hr := run_stoC (P := P) w hB hv hi hl one
  unfold Oper.wp
  simp [execOp, ho, hp, hx, hr, Result.andThen]
  exact hK _ _ (h _ (setRow_heap w b cur _ e _ hB) ⟨rfl, rfl, rfl, by simp, fun k _ hk => setRow_other w b k _ hk⟩ (by simp))
end
end Go.Tt

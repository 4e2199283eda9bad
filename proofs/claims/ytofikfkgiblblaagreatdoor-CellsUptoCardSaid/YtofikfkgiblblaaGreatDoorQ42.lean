/- Merged: Awk. -/
import Derived.Test.YtofikfkgiblblaaGreatDoorQ21
import Derived.Test.YtofikfkgiblblaaGreatDoorQ41
/- Layer 12: awake. -/
namespace Go.Proofs.YtofikfkgiblblaaGreatDoor
set_option linter.unusedVariables false
set_option linter.unusedSimpArgs false
set_option linter.unusedVariables false
set_option linter.unusedSimpArgs false
open Go.RowKit Go.Lib Go.Tt Go.Shelf
/-- cell.New, as awake calls it. -/
theorem new_A (w : World) : Calls Tryz.prog 13 #[.int .i64 3, .int .i64 2] w fun e w' => ∃ a1 c1 a2 c2 a3 c3, e = .returned (.tuple #[.agg #[.int .i64 3, .bool false, .int .i64 0, .int .i64 0, .string ⟨#[]⟩, .int .i64 0, .int .i64 0, .slice a1 0 c1, .slice a2 0 c2, .slice a3 2 c3], .int .i64 0]) ∧ CellR w' (newC 3 2) (.slice a1 0 c1) (.slice a2 0 c2) (.slice a3 2 c3) ∧ Frm No w w' := by
  have h := cellNew_ok 3 2 w
  rw [newA] at h
  refine h.mono ?_
  rintro e w' ⟨ve, vl, vs, rfl, o, f⟩
  obtain ⟨a1, c1, rfl⟩ := o.e.sh
  obtain ⟨a2, c2, rfl⟩ := o.l.sh
  obtain ⟨a3, c3, rfl⟩ := o.s.sh
  exact ⟨a1, c1, a2, c2, a3, c3, rfl, o.rd, f⟩
theorem new_bad {k n E : Int} (hE : newF k n = (zeroC, E)) (w : World) : Calls Tryz.prog 13 #[.int .i64 k, .int .i64 n] w fun e w' => ∃ a1 c1 a2 c2 a3 c3, e = .returned (.tuple #[.agg #[.int .i64 0, .bool false, .int .i64 0, .int .i64 0, .string ⟨#[]⟩, .int .i64 0, .int .i64 0, .slice a1 0 c1, .slice a2 0 c2, .slice a3 0 c3], .int .i64 E]) ∧ Frm No w w' := by
  have h := cellNew_ok k n w
  rw [hE] at h
  refine h.mono ?_
  rintro e w' ⟨ve, vl, vs, rfl, o, f⟩
  obtain ⟨a1, c1, rfl⟩ := o.e.sh
  obtain ⟨a2, c2, rfl⟩ := o.l.sh
  obtain ⟨a3, c3, rfl⟩ := o.s.sh
  exact ⟨a1, c1, a2, c2, a3, c3, rfl, f⟩
theorem small (n : Nat) (h : n ≤ 1000) : n ≤ 2 ^ 63 - 1 := by omega
theorem opA_b : OpB opA := ⟨by decide, by decide, by decide, by decide⟩
theorem opS_b : OpB opS := ⟨by decide, by decide, by decide, by decide⟩
theorem newC_b : CellB (newC 3 2) := ⟨by decide, by decide, by decide⟩
theorem newC_z : CellZ (newC 3 2) := ⟨by decide, (fun x hx => by cases hx), (fun x hx => by cases hx)⟩
theorem dA_b : CellB dA := ⟨by decide, by decide, by decide⟩
theorem dA_z : CellZ dA := ⟨by decide, (fun x hx => by cases hx), (fun x hx => by obtain rfl := List.mem_singleton.1 hx; decide)⟩
theorem told_A : Told dA := ⟨(fun h => absurd h (by decide)), (fun h => absurd h (by decide)), (fun _ => ⟨by decide, by decide⟩)⟩
theorem told_B : Told cB := ⟨(fun h => absurd h (by decide)), (fun h => absurd h (by decide)), (fun h => absurd h (by decide))⟩
theorem told_C : Told cC := ⟨(fun h => absurd h (by decide)), (fun h => absurd h (by decide)), (fun h => absurd h (by decide))⟩
/-- cell.Apply, as awake calls it. -/
theorem apply_A {w : World} {a1 a2 a3 ad ao : Option Addr} {c1 c2 c3 cd co : Nat} (h : CellR w (newC 3 2) (.slice a1 0 c1) (.slice a2 0 c2) (.slice a3 2 c3)) (hO : OpR w opA (.slice ad 2 cd) (.slice ao 0 co)) :
    Calls Tryz.prog 11 #[.agg #[.int .i64 3, .bool false, .int .i64 0, .int .i64 0, .string ⟨#[]⟩, .int .i64 0, .int .i64 0, .slice a1 0 c1, .slice a2 0 c2, .slice a3 2 c3], .agg #[.int .i64 1, .int .i64 1, .int .i64 4, .slice ad 2 cd, .int .i64 4, .string ⟨#[84]⟩, .string ⟨#[105]⟩, .string ⟨#[102]⟩, .string ⟨#[97, 34, 1]⟩, .int .i64 0, .int .i64 0, .int .i64 0, .int .i64 0, .slice ao 0 co], .int .i64 2] w
      fun e w' => ∃ a1 c1 a2 c2 a3 c3, e = .returned (.tuple #[.agg #[.int .i64 3, .bool false, .int .i64 0, .int .i64 0, .string ⟨#[]⟩, .int .i64 0, .int .i64 0, .slice a1 0 c1, .slice a2 1 c2, .slice a3 2 c3], .int .i64 0]) ∧ CellO w' (Nw No w w') dA (.slice a1 0 c1) (.slice a2 1 c2) (.slice a3 2 c3) ∧ Frm No w w' := by
  have h := apply_ok h newC_b newC_z hO opA_b 2
  rw [applyA] at h
  refine h.mono ?_
  rintro e w' ⟨ve, vl, vs, rfl, o, f⟩
  obtain ⟨a1, c1, rfl⟩ := o.e.sh
  obtain ⟨a2, c2, rfl⟩ := o.l.sh
  obtain ⟨a3, c3, rfl⟩ := o.s.sh
  exact ⟨a1, c1, a2, c2, a3, c3, rfl, o, f⟩
theorem apply_B {w : World} {a1 a2 a3 ad ao : Option Addr} {c1 c2 c3 cd co : Nat} (h : CellR w dA (.slice a1 0 c1) (.slice a2 1 c2) (.slice a3 2 c3)) (hO : OpR w opS (.slice ad 2 cd) (.slice ao 0 co)) :
    Calls Tryz.prog 11 #[.agg #[.int .i64 3, .bool false, .int .i64 0, .int .i64 0, .string ⟨#[]⟩, .int .i64 0, .int .i64 0, .slice a1 0 c1, .slice a2 1 c2, .slice a3 2 c3], .agg #[.int .i64 1, .int .i64 1, .int .i64 4, .slice ad 2 cd, .int .i64 0, .string ⟨#[84]⟩, .string ⟨#[105]⟩, .string ⟨#[102]⟩, .string ⟨#[97, 34, 1]⟩, .int .i64 0, .int .i64 0, .int .i64 0, .int .i64 0, .slice ao 0 co], .int .i64 2] w
      fun e w' => ∃ a1 c1 a2 c2 a3 c3, e = .returned (.tuple #[.agg #[.int .i64 0, .bool false, .int .i64 0, .int .i64 0, .string ⟨#[]⟩, .int .i64 0, .int .i64 0, .slice a1 0 c1, .slice a2 0 c2, .slice a3 0 c3], .int .i64 1201]) ∧ Frm No w w' := by
  have h := apply_ok h dA_b dA_z hO opS_b 2
  rw [applyB] at h
  refine h.mono ?_
  rintro e w' ⟨ve, vl, vs, rfl, o, f⟩
  obtain ⟨a1, c1, rfl⟩ := o.e.sh
  obtain ⟨a2, c2, rfl⟩ := o.l.sh
  obtain ⟨a3, c3, rfl⟩ := o.s.sh
  exact ⟨a1, c1, a2, c2, a3, c3, rfl, f⟩
theorem read_A {w : World} {a1 a2 a3 : Option Addr} {c1 c2 c3 : Nat} (h : CellR w dA (.slice a1 0 c1) (.slice a2 1 c2) (.slice a3 2 c3)) (t : Tab w) :
    Calls Tryz.prog 15 #[.agg #[.int .i64 3, .bool false, .int .i64 0, .int .i64 0, .string ⟨#[]⟩, .int .i64 0, .int .i64 0, .slice a1 0 c1, .slice a2 1 c2, .slice a3 2 c3]] w fun e w' => e = .returned (.tuple #[.string ⟨#[91, 34, 97, 92, 34, 92, 117, 48, 48, 48, 49, 34, 93]⟩, .int .i64 0]) ∧ Frm No w w' := by
  have h := read_ok h dA_b told_A t
  rw [readA] at h
  exact h
theorem read_B {w : World} (t : Tab w) :
    Calls Tryz.prog 15 #[.agg #[.int .i64 1, .bool false, .int .i64 0, .int .i64 0, .string ⟨#[]⟩, .int .i64 1, .int .i64 (-2), .slice none 0 0, .slice none 0 0, .slice none 0 0]] w fun e w' => e = .returned (.tuple #[.string ⟨#[91, 49, 44, 45, 50, 93]⟩, .int .i64 0]) ∧ Frm No w w' := by
  have h := read_ok (w := w) (c := cB) (ve := .slice none 0 0) (vl := .slice none 0 0) (vs := .slice none 0 0) ⟨RdS.nil _ _, RdS.nil _ _, RdS.nil _ _⟩ ⟨by decide, by decide, by decide⟩ told_B t
  rw [readB] at h
  exact h
theorem read_C {w : World} (t : Tab w) :
    Calls Tryz.prog 15 #[.agg #[.int .i64 9, .bool false, .int .i64 0, .int .i64 0, .string ⟨#[]⟩, .int .i64 0, .int .i64 0, .slice none 0 0, .slice none 0 0, .slice none 0 0]] w fun e w' => e = .returned (.tuple #[.string ⟨#[]⟩, .int .i64 1200]) ∧ Frm No w w' := by
  have h := read_ok (w := w) (c := cC) (ve := .slice none 0 0) (vl := .slice none 0 0) (vs := .slice none 0 0) ⟨RdS.nil _ _, RdS.nil _ _, RdS.nil _ _⟩ ⟨by decide, by decide, by decide⟩ told_C t
  rw [readC] at h
  exact h
theorem may_A {w : World} {a1 a2 a3 : Option Addr} {c1 c2 c3 : Nat} (h : CellR w dA (.slice a1 0 c1) (.slice a2 1 c2) (.slice a3 2 c3)) :
    Calls Tryz.prog 20 #[.agg #[.int .i64 3, .bool false, .int .i64 0, .int .i64 0, .string ⟨#[]⟩, .int .i64 0, .int .i64 0, .slice a1 0 c1, .slice a2 1 c2, .slice a3 2 c3], .int .i64 2] w fun e w' => e = .returned (.bool true) ∧ Frm No w w' := by
  have h := cellMay_ok h dA_z 2
  rw [mayA] at h
  exact h
theorem stab_A {w : World} {a1 a2 a3 : Option Addr} {c1 c2 c3 : Nat} (h : CellR w dA (.slice a1 0 c1) (.slice a2 1 c2) (.slice a3 2 c3)) {a : Option Addr} {n m : Nat} {l : List Int} {B : Bool} (hB : vUnder dA.seen l = B) (hl : RdS w eInt (.slice a n m) l) :
    Calls Tryz.prog 22 #[.agg #[.int .i64 3, .bool false, .int .i64 0, .int .i64 0, .string ⟨#[]⟩, .int .i64 0, .int .i64 0, .slice a1 0 c1, .slice a2 1 c2, .slice a3 2 c3], .slice a n m] w fun e w' => e = .returned (.bool B) ∧ Frm No w w' := by
  have h := cellStable_ok h hl
  rw [hB] at h
  exact h
set_option maxHeartbeats 4000000 in
set_option maxRecDepth 100000 in
theorem awake_ok {w : World} (tab : Tab w) : Calls Tryz.prog 25 #[] w fun e w' => e = .returned (.bool true) ∧ Frm No w w' := by
  have TB := Lib.hid (fun W (f : Frm No w W) => tab.frm f)
  go_enter Tryz.func25, Tryz.ntmps25
  go_wp2_with (fail)
  refine (new_A w).mono ?_
  rintro e w1 ⟨a1, c1, a2, c2, a3, c3, rfl, r1, f1⟩
  go_wp2_with (fail)
  have F1 := f1.al (.cells #[.int .i64 3, .bool false, .int .i64 0, .int .i64 0, .string ⟨#[]⟩, .int .i64 0, .int .i64 0, .slice a1 0 c1, .slice a2 0 c2, .slice a3 2 c3] 30 (0, 0))
  have B1 := heap_alloc_new w1 (.cells #[.int .i64 3, .bool false, .int .i64 0, .int .i64 0, .string ⟨#[]⟩, .int .i64 0, .int .i64 0, .slice a1 0 c1, .slice a2 0 c2, .slice a3 2 c3] 30 (0, 0))
  have R1 := r1.no ((Frm.refl No w1).al (.cells #[.int .i64 3, .bool false, .int .i64 0, .int .i64 0, .string ⟨#[]⟩, .int .i64 0, .int .i64 0, .slice a1 0 c1, .slice a2 0 c2, .slice a3 2 c3] 30 (0, 0)))
  refine (new_bad newB _).mono ?_
  rintro e w2 ⟨a4, c4, a5, c5, a6, c6, rfl, f2⟩
  have F2 := F1.trans f2
  have B2 := f2.obj B1 id
  have R2 := R1.no f2
  clear f1 r1 F1 B1 R1 f2
  go_wp2_with (fail)
  refine (new_bad newD _).mono ?_
  rintro e w3 ⟨a7, c7, a8, c8, a9, c9, rfl, f3⟩
  have G3 := ((Frm.refl No w2).al (.cells #[.int .i64 0, .bool false, .int .i64 0, .int .i64 0, .string ⟨#[]⟩, .int .i64 0, .int .i64 0, .slice a4 0 c4, .slice a5 0 c5, .slice a6 0 c6] 30 (0, 0))).trans f3
  have F3 := F2.trans G3
  have B3 := G3.obj B2 id
  have R3 := R2.no G3
  clear F2 B2 R2 f3 G3
  have n3 := lt_of_block B3
  have n3a : w1.heap.size < w3.heap.size + 1 := by omega
  have n3b : w1.heap.size < w3.heap.size + 1 + 1 := by omega
  obtain ⟨q0, q1, q2, q3, q4, q5, q6, q7, q8, q9⟩ := obj10 B3
  go_wp2_with (fail)
  have FX : Frm No w3 (((w3.alloc (.cells #[.int .i64 0, .bool false, .int .i64 0, .int .i64 0, .string ⟨#[]⟩, .int .i64 0, .int .i64 0, .slice a7 0 c7, .slice a8 0 c8, .slice a9 0 c9] 30 (0, 0))).alloc (.cells #[.int .i64 0, .int .i64 0] 3 (0, 0))).alloc (.cells #[.int .i64 1, .int .i64 1, .int .i64 4, .slice (some ⟨w3.heap.size + 1, 0, none⟩) 2 2, .int .i64 4, .string ⟨#[84]⟩, .string ⟨#[105]⟩, .string ⟨#[102]⟩, .string ⟨#[97, 34, 1]⟩, .int .i64 0, .int .i64 0, .int .i64 0, .int .i64 0, .slice none 0 0] 35 (0, 0))) := (((Frm.refl No w3).al _).al _).al _
  have OX : (((w3.alloc (.cells #[.int .i64 0, .bool false, .int .i64 0, .int .i64 0, .string ⟨#[]⟩, .int .i64 0, .int .i64 0, .slice a7 0 c7, .slice a8 0 c8, .slice a9 0 c9] 30 (0, 0))).alloc (.cells #[.int .i64 0, .int .i64 0] 3 (0, 0))).alloc (.cells #[.int .i64 1, .int .i64 1, .int .i64 4, .slice (some ⟨w3.heap.size + 1, 0, none⟩) 2 2, .int .i64 4, .string ⟨#[84]⟩, .string ⟨#[105]⟩, .string ⟨#[102]⟩, .string ⟨#[97, 34, 1]⟩, .int .i64 0, .int .i64 0, .int .i64 0, .int .i64 0, .slice none 0 0] 35 (0, 0))).heap[w3.heap.size + 1 + 1]? = some (.cells #[.int .i64 1, .int .i64 1, .int .i64 4, .slice (some ⟨w3.heap.size + 1, 0, none⟩) 2 2, .int .i64 4, .string ⟨#[84]⟩, .string ⟨#[105]⟩, .string ⟨#[102]⟩, .string ⟨#[97, 34, 1]⟩, .int .i64 0, .int .i64 0, .int .i64 0, .int .i64 0, .slice none 0 0] 35 (0, 0)) := al_at (by simp)
  have HX : (((w3.alloc (.cells #[.int .i64 0, .bool false, .int .i64 0, .int .i64 0, .string ⟨#[]⟩, .int .i64 0, .int .i64 0, .slice a7 0 c7, .slice a8 0 c8, .slice a9 0 c9] 30 (0, 0))).alloc (.cells #[.int .i64 0, .int .i64 0] 3 (0, 0))).alloc (.cells #[.int .i64 1, .int .i64 1, .int .i64 4, .slice (some ⟨w3.heap.size + 1, 0, none⟩) 2 2, .int .i64 4, .string ⟨#[84]⟩, .string ⟨#[105]⟩, .string ⟨#[102]⟩, .string ⟨#[97, 34, 1]⟩, .int .i64 0, .int .i64 0, .int .i64 0, .int .i64 0, .slice none 0 0] 35 (0, 0))).heap[w3.heap.size + 1]? = some (.cells #[.int .i64 0, .int .i64 0] 3 (0, 0)) := al_old (al_at (by simp))
  have DX : Ow (((w3.alloc (.cells #[.int .i64 0, .bool false, .int .i64 0, .int .i64 0, .string ⟨#[]⟩, .int .i64 0, .int .i64 0, .slice a7 0 c7, .slice a8 0 c8, .slice a9 0 c9] 30 (0, 0))).alloc (.cells #[.int .i64 0, .int .i64 0] 3 (0, 0))).alloc (.cells #[.int .i64 1, .int .i64 1, .int .i64 4, .slice (some ⟨w3.heap.size + 1, 0, none⟩) 2 2, .int .i64 4, .string ⟨#[84]⟩, .string ⟨#[105]⟩, .string ⟨#[102]⟩, .string ⟨#[97, 34, 1]⟩, .int .i64 0, .int .i64 0, .int .i64 0, .int .i64 0, .slice none 0 0] 35 (0, 0))) (fun k => k = w3.heap.size + 1) 3 eInt (.slice (some ⟨w3.heap.size + 1, 0, none⟩) 2 2) [0, 0] := Ow.row (l := [0, 0]) (c := 2) HX rfl (by decide) (by decide) rfl rfl
  clear HX
  have zX : (((w3.alloc (.cells #[.int .i64 0, .bool false, .int .i64 0, .int .i64 0, .string ⟨#[]⟩, .int .i64 0, .int .i64 0, .slice a7 0 c7, .slice a8 0 c8, .slice a9 0 c9] 30 (0, 0))).alloc (.cells #[.int .i64 0, .int .i64 0] 3 (0, 0))).alloc (.cells #[.int .i64 1, .int .i64 1, .int .i64 4, .slice (some ⟨w3.heap.size + 1, 0, none⟩) 2 2, .int .i64 4, .string ⟨#[84]⟩, .string ⟨#[105]⟩, .string ⟨#[102]⟩, .string ⟨#[97, 34, 1]⟩, .int .i64 0, .int .i64 0, .int .i64 0, .int .i64 0, .slice none 0 0] 35 (0, 0))).heap.size = w3.heap.size + 1 + 1 + 1 := by simp
  clear n3a n3b q0 q1 q2 q3 q4 q5 q6 q7 q8 q9 n3
  revert FX OX DX zX
  generalize (((w3.alloc (.cells #[.int .i64 0, .bool false, .int .i64 0, .int .i64 0, .string ⟨#[]⟩, .int .i64 0, .int .i64 0, .slice a7 0 c7, .slice a8 0 c8, .slice a9 0 c9] 30 (0, 0))).alloc (.cells #[.int .i64 0, .int .i64 0] 3 (0, 0))).alloc (.cells #[.int .i64 1, .int .i64 1, .int .i64 4, .slice (some ⟨w3.heap.size + 1, 0, none⟩) 2 2, .int .i64 4, .string ⟨#[84]⟩, .string ⟨#[105]⟩, .string ⟨#[102]⟩, .string ⟨#[97, 34, 1]⟩, .int .i64 0, .int .i64 0, .int .i64 0, .int .i64 0, .slice none 0 0] 35 (0, 0))) = X
  intro FX OX DX zX
  refine (apply_A (R3.no FX) ⟨DX.rd, RdS.nil _ _⟩).mono ?_
  rintro e w4 ⟨b1, d1, b2, d2, b3, d3, rfl, o4, f4⟩
  have F4 := (F3.trans FX).trans f4
  have O4 := f4.obj OX id
  have D4 := DX.no f4
  have n4 := lt_of_block O4
  have z3 := F3.size
  have o4 := o4.mono (G := fun k => w3.heap.size + 1 + 1 < k) fun k _ h => by rcases h with h | h; exact h.elim; have := h.1; omega
  clear R3 FX F3 B3 OX DX f4
  go_wp2_with (fail)
  have G4 := (Frm.refl No w4).al (.cells #[.int .i64 3, .bool false, .int .i64 0, .int .i64 0, .string ⟨#[]⟩, .int .i64 0, .int .i64 0, .slice b1 0 d1, .slice b2 1 d2, .slice b3 2 d3] 30 (0, 0))
  refine (read_A (o4.rd.no G4) (TB.out _ (F4.trans G4))).mono ?_
  rintro e w5 ⟨rfl, f5⟩
  have G5 := G4.trans f5
  have F5 := F4.trans G5
  have O5 := G5.obj O4 id
  have D5 := D4.no G5
  have o5 : CellO w5 (fun k => w3.heap.size + 1 + 1 < k) dA (.slice b1 0 d1) (.slice b2 1 d2) (.slice b3 2 d3) := o4.frm G5 fun _ _ h => h
  have C5 := f5.obj (heap_alloc_new w4 (.cells #[.int .i64 3, .bool false, .int .i64 0, .int .i64 0, .string ⟨#[]⟩, .int .i64 0, .int .i64 0, .slice b1 0 d1, .slice b2 1 d2, .slice b3 2 d3] 30 (0, 0))) id
  clear F4 O4 D4 o4 G4 G5 f5
  go_wp2_with (refine wpList_stoC _ rfl (.tmp 44) (.const (.int .i64 0)) 3 rfl O5 (vs := [.int .i64 0]) rfl (by kernel_rfl) (by show 4 + 1 ≤ 14; omega) (by intro u hu; simp at hu; subst hu; rfl) rfl rfl #[.int .i64 1, .int .i64 1, .int .i64 4, .slice (some ⟨w3.heap.size + 1, 0, none⟩) 2 2, .int .i64 0, .string ⟨#[84]⟩, .string ⟨#[105]⟩, .string ⟨#[102]⟩, .string ⟨#[97, 34, 1]⟩, .int .i64 0, .int .i64 0, .int .i64 0, .int .i64 0, .slice none 0 0] rfl ?_)
  intro w6 O6 f6 z6
  have F6 := F5.then f6 fun k hk e => by omega
  have D6 := D5.frm f6 fun k hk e => by omega
  have o6 := o5.frm f6 fun k hk e => by omega
  have C6 := f6.obj C5 (by omega)
  clear F5 O5 D5 o5 C5 f6
  obtain ⟨q0, q1, q2, q3, q4, q5, q6, q7, q8, q9⟩ := obj10 C6
  obtain ⟨t0, t1, t2, t3, t4, t5, t6, t7, t8, t9, t10, t11, t12, t13⟩ := obj14 O6
  go_wp2_with (fail)
  refine (apply_B o6.rd ⟨D6.rd, RdS.nil _ _⟩).mono ?_
  rintro e w7 ⟨b4, d4, b5, d5, b6, d6, rfl, f7⟩
  have G7 := f7.al (.cells #[.int .i64 0, .bool false, .int .i64 0, .int .i64 0, .string ⟨#[]⟩, .int .i64 0, .int .i64 0, .slice b4 0 d4, .slice b5 0 d5, .slice b6 0 d6] 30 (0, 0))
  have F7 := F6.trans G7
  have R7 := o6.rd.no G7
  have C7 := G7.obj C6 id
  clear F6 D6 o6 C6 f7 O6 G7 q0 q1 q2 q3 q4 q5 q6 q7 q8 q9 t0 t1 t2 t3 t4 t5 t6 t7 t8 t9 t10 t11 t12 t13
  go_wp2_with (fail)
  refine (read_B (TB.out _ F7)).mono ?_
  rintro e w8 ⟨rfl, f8⟩
  have F8 := F7.trans f8
  have R8 := R7.no f8
  have C8 := f8.obj C7 id
  clear F7 R7 C7 f8
  go_wp2_with (fail)
  refine (read_C (TB.out _ F8)).mono ?_
  rintro e w9 ⟨rfl, f9⟩
  have F9 := F8.trans f9
  have R9 := R8.no f9
  have C9 := f9.obj C8 id
  clear F8 R8 C8 f9
  obtain ⟨q0, q1, q2, q3, q4, q5, q6, q7, q8, q9⟩ := obj10 C9
  go_wp2_with (go_at_call 18; refine (num_ok _ _).mono ?_; rintro e w' ⟨rfl, rfl⟩)
  have L9 : RdS (w9.alloc (.cells #[.int .i64 0, .int .i64 1] 3 (0, 0))) eInt (.slice (some ⟨w9.heap.size, 0, none⟩) 2 2) [0, 1] := RdS_lits w9 eInt [0, 1] 3 (g := w9.heap.size) (n := 2) rfl rfl (by decide)
  refine (sameInts_ok (R9.s.no ((Frm.refl No w9).al _)) L9).mono ?_
  rintro e w10 ⟨rfl, k, hw⟩
  have G : Frm No w9 w10 := by rw [hw]; exact ((Frm.refl No w9).al _).dr k
  clear hw L9
  rw [show decide (dA.seen = [0, 1]) = true from rfl]
  have F10 := F9.trans G
  have R10 := R9.no G
  have C10 := G.obj C9 id
  clear F9 R9 C9 G q0 q1 q2 q3 q4 q5 q6 q7 q8 q9
  obtain ⟨q0, q1, q2, q3, q4, q5, q6, q7, q8, q9⟩ := obj10 C10
  go_wp2_with (go_at_call 18; refine (num_ok _ _).mono ?_; rintro e w' ⟨rfl, rfl⟩)
  refine (may_A R10).mono ?_
  rintro e w11 ⟨rfl, f11⟩
  have F11 := F10.trans f11
  have R11 := R10.no f11
  have C11 := f11.obj C10 id
  clear F10 R10 C10 f11 q0 q1 q2 q3 q4 q5 q6 q7 q8 q9
  obtain ⟨q0, q1, q2, q3, q4, q5, q6, q7, q8, q9⟩ := obj10 C11
  go_wp2_with (fail)
  have L11 : RdS (w11.alloc (.cells #[.int .i64 0, .int .i64 1] 3 (0, 0))) eInt (.slice (some ⟨w11.heap.size, 0, none⟩) 2 2) [0, 1] := RdS_lits w11 eInt [0, 1] 3 (g := w11.heap.size) (n := 2) rfl rfl (by decide)
  have G := (Frm.refl No w11).al (.cells #[.int .i64 0, .int .i64 1] 3 (0, 0))
  refine (stab_A (R11.no G) stabA L11).mono ?_
  rintro e w12 ⟨rfl, f12⟩
  have G := G.trans f12
  have F12 := F11.trans G
  have R12 := R11.no G
  have C12 := G.obj C11 id
  clear F11 R11 C11 G f12 L11 q0 q1 q2 q3 q4 q5 q6 q7 q8 q9
  obtain ⟨q0, q1, q2, q3, q4, q5, q6, q7, q8, q9⟩ := obj10 C12
  go_wp2_with (fail)
  have L12 : RdS (w12.alloc (.cells #[.int .i64 9, .int .i64 0] 3 (0, 0))) eInt (.slice (some ⟨w12.heap.size, 0, none⟩) 2 2) [9, 0] := RdS_lits w12 eInt [9, 0] 3 (g := w12.heap.size) (n := 2) rfl rfl (by decide)
  have G := (Frm.refl No w12).al (.cells #[.int .i64 9, .int .i64 0] 3 (0, 0))
  refine (stab_A (R12.no G) stabB L12).mono ?_
  rintro e w13 ⟨rfl, f13⟩
  have F13 := F12.trans (G.trans f13)
  clear F12 R12 C12 G f13 L12 q0 q1 q2 q3 q4 q5 q6 q7 q8 q9
  go_wp2_with (fail)
  go_ret
  exact ⟨rfl, F13⟩
end Go.Proofs.YtofikfkgiblblaaGreatDoor

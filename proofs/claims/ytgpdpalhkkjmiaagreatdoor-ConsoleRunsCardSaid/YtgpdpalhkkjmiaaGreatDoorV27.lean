/- Merged: CellM3 CellM4. -/
import Derived.Test.YtgpdpalhkkjmiaaGreatDoorV12
import Derived.Test.YtgpdpalhkkjmiaaGreatDoorV17
import Derived.Test.YtgpdpalhkkjmiaaGreatDoorV26
/- Layer 12: may a list's elements be? -/
namespace Go.Proofs.YtgpdpalhkkjmiaaGreatDoor
set_option linter.unusedVariables false
set_option linter.unusedSimpArgs false
set_option linter.unusedVariables false
set_option linter.unusedSimpArgs false
open Go.RowKit Go.Lib Go.Tt Go.Shelf
def elDot (x : El) : Dt := (x.1, x.2.1)
abbrev El0 : El := (0, 0, 0, ⟨#[]⟩, false)
/-- The first k elements may be, each of another dot. -/
def elsRow (c : CellV) (k : Nat) : Prop := ∀ j, j < k → elDot (c.elems.getD j El0) ∉ (c.elems.take j).map elDot ∧ vHas c.seen (elDot (c.elems.getD j El0)) = true ∧ timeMay (c.elems.getD j El0).2.2.1 = true ∧ (c.elems.getD j El0).2.2.2.1.size ≤ 256 ∧ ((c.elems.getD j El0).2.2.2.2 = true → (c.elems.getD j El0).2.2.2.1.size = 0)
instance (c : CellV) (k : Nat) : Decidable (elsRow c k) := by unfold elsRow; infer_instance
def elsMay (c : CellV) : Bool := decide (elsRow c c.elems.length)
end Go.Proofs.YtgpdpalhkkjmiaaGreatDoor

/- Layer 12: kinds, new cells, may a cell be, is a cell stable. -/
namespace Go.Proofs.YtgpdpalhkkjmiaaGreatDoor
set_option linter.unusedVariables false
set_option linter.unusedSimpArgs false
open Go.RowKit Go.Lib Go.Tt Go.Shelf
def kindMay (k : Int) : Bool := decide (0 ≤ k ∧ k ≤ 3)
theorem flat_zeros (m : Nat) : eInt.flat (List.replicate m 0) = List.replicate m (Value.int .i64 0) := by
  induction m with
  | zero => rfl
  | succ m ih => rw [List.replicate_succ, eInt.flat_cons, ih]; rfl
/-- A new cell. -/
def newC (k : Int) (n : Nat) : CellV := ⟨k, false, (0, 0), ⟨#[]⟩, (0, 0), [], [], List.replicate n 0⟩
def newF (k n : Int) : CellV × Int := if kindMay k = false then (zeroC, 1201) else if nodesMay n = false then (zeroC, 1200) else (newC k n.toNat, 0)
/-- May a cell be? -/
def cellMay (c : CellV) (n : Int) : Bool :=
  vecMay c.seen n && (bareC c && (if c.kind = 0 then setMay c n else if c.kind = 1 then pairMay c.num else if c.kind = 2 then entsMay c else if c.kind = 3 then elsMay c else false))
end Go.Proofs.YtgpdpalhkkjmiaaGreatDoor

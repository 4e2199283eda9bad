/- Merged: Lww Cnt3 CellM1. -/
import Derived.Test.YtgpdpalhkkjmiaaGreatDoorV15
import Derived.Test.YtgpdpalhkkjmiaaGreatDoorV16
import Derived.Test.YtgpdpalhkkjmiaaGreatDoorV17
import Derived.Test.YtgpdpalhkkjmiaaGreatDoorV19
import Derived.Test.YtgpdpalhkkjmiaaGreatDoorV24
/- Layer 7: lww.Set. -/
namespace Go.Proofs.YtgpdpalhkkjmiaaGreatDoor
set_option linter.unusedVariables false
set_option linter.unusedSimpArgs false
set_option linter.unusedVariables false
set_option linter.unusedSimpArgs false
open Go.RowKit Go.Lib Go.Tt Go.Shelf
/-- What Set gives, of a last value. -/
def setF (c : CellV) (s : Dt) (v : ByteArray) : CellV × Int := if c.set = false ∨ dotLess c.st s = true then ({ c with set := true, st := s, value := v }, 0) else (c, 0)
end Go.Proofs.YtgpdpalhkkjmiaaGreatDoor

/- Layer 8: count.Add. -/
namespace Go.Proofs.YtgpdpalhkkjmiaaGreatDoor
set_option linter.unusedVariables false
set_option linter.unusedSimpArgs false
open Go.RowKit Go.Lib Go.Tt Go.Shelf
/-- What Add gives, of a counter. -/
def addF (c : CellV) (p : Int × Int) : CellV × Int := if (addPair c.num p).2 = 0 then ({ c with num := (addPair c.num p).1 }, 0) else (zeroC, 800)
end Go.Proofs.YtgpdpalhkkjmiaaGreatDoor

/- Layer 12: may a last value be; is all zero but what a cell's kind names; kinds; new cells; is a cell stable. -/
namespace Go.Proofs.YtgpdpalhkkjmiaaGreatDoor
set_option linter.unusedVariables false
set_option linter.unusedSimpArgs false
open Go.RowKit Go.Lib Go.Tt Go.Shelf
/-- A cell's texts are no longer than a text may be. -/
structure CellZ (c : CellV) : Prop where
  v : c.value.size ≤ 2 ^ 63 - 1
  e : ∀ x ∈ c.ents, x.2.2.size ≤ 2 ^ 63 - 1
  l : ∀ x ∈ c.elems, x.2.2.2.1.size ≤ 2 ^ 63 - 1
def unsetC (c : CellV) : Prop := c.set = false ∧ c.st.1 = 0 ∧ c.st.2 = 0 ∧ c.value.size = 0
instance (c : CellV) : Decidable (unsetC c) := by unfold unsetC; infer_instance
/-- May the last value be? -/
def setMay (c : CellV) (n : Int) : Bool := if c.set = false then decide (c.st.1 = 0 ∧ c.st.2 = 0 ∧ c.value.size = 0) else decide ((1 ≤ c.st.1 ∧ c.st.1 ≤ 16777215) ∧ 0 ≤ c.st.2 ∧ c.st.2 < n ∧ c.value.size ≤ 256)
theorem cellBlk {w : World} {b : Nat} {c : CellV} {ve vl vs : Value} (h : w.heap[b]? = some (.cells (cellCells c ve vl vs) 75 (0, 0))) :
    w.cell? ⟨b, 0, none⟩ = some (.int .i64 c.kind) ∧ w.cell? ⟨b, 1, none⟩ = some (.bool c.set) ∧ w.cell? ⟨b, 2, none⟩ = some (.int .i64 c.st.1) ∧ w.cell? ⟨b, 3, none⟩ = some (.int .i64 c.st.2) ∧ w.cell? ⟨b, 4, none⟩ = some (.string c.value) ∧ w.cell? ⟨b, 5, none⟩ = some (.int .i64 c.num.1) ∧ w.cell? ⟨b, 6, none⟩ = some (.int .i64 c.num.2) ∧ w.cell? ⟨b, 7, none⟩ = some ve ∧ w.cell? ⟨b, 8, none⟩ = some vl ∧ w.cell? ⟨b, 9, none⟩ = some vs := obj10 h
/-- Is all zero but what a cell's kind names? -/
def bareC (c : CellV) : Bool := decide ((c.kind = 0 ∨ unsetC c) ∧ (c.kind = 1 ∨ c.num.1 = 0 ∧ c.num.2 = 0) ∧ (c.kind = 2 ∨ c.ents.length = 0) ∧ (c.kind = 3 ∨ c.elems.length = 0))
end Go.Proofs.YtgpdpalhkkjmiaaGreatDoor

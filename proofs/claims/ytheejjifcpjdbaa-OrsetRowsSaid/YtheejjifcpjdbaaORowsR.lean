/- OrsetRows at what the row hands in. -/
import Derived.Test.YtheejjifcpjdbaaORows
import Derived.Test.YtheejjifcpjdbaaOpenC
namespace Go.Proofs.Ytheejjifcpjdbaa
set_option linter.unusedVariables false
set_option linter.unusedSimpArgs false
open Go.RowKit Go.Lib Go.Tt Go.WideShapes
set_option maxRecDepth 10000
theorem ints_of {base : Nat} {w : World} {v : Value} (ok : Value.okWide Try.prog w .any base 49 v) (h : Rd Try.prog w 49 v.cells.toList) : ∃ l, RdS w eInt v l ∧ l.length * 8 ≤ reachBytes := by
  obtain ⟨a, n, c, rfl⟩ := okWide_slice Try.underlying49 ok
  obtain ⟨l, hl, hb⟩ := rdS_of (E := eInt) rfl ⟨a, n, c, rfl⟩ Try.underlying49 c_int (fun cs h => by
    obtain ⟨n, h1, -⟩ := h.int Try.underlying3
    exact ⟨n, h1.symm⟩) h
  rw [show Try.prog.bytesOf 3 = 8 by kernel_rfl] at hb
  exact ⟨l, hl, hb⟩
set_option maxRecDepth 100000 in
theorem orows_row {base : Nat} (w : World) {v : Value} (ok : Value.okWide Try.prog w .any base 49 v) (h : Rd Try.prog w 49 v.cells.toList) (drops : Int) (_ : (Lit.int .i64 drops).wf = true) : Calls Try.prog 9 #[v, .int .i64 drops] w fun e w' => e = .returned (.bool true) ∧ Below w.heap.size w w' := by
  obtain ⟨l, hl, -⟩ := ints_of ok h
  obtain ⟨a, n, c, rfl⟩ := okWide_slice Try.underlying49 ok
  exact orows_walk w hl drops
end Go.Proofs.Ytheejjifcpjdbaa

/- Orsets at what the row hands in. -/
import Derived.Test.YtheejjifcpjdbaaOSets
import Derived.Test.YtheejjifcpjdbaaOpenC
namespace Go.Proofs.Ytheejjifcpjdbaa
set_option linter.unusedVariables false
set_option linter.unusedSimpArgs false
open Go.RowKit Go.Lib Go.Tt Go.WideShapes
set_option maxRecDepth 100000 in
theorem orsets_row {base : Nat} (w : World) {v0 v1 v2 : Value} (ok0 : Value.okWide Try.prog w .any base 59 v0) (h0 : Rd Try.prog w 59 v0.cells.toList) (ok1 : Value.okWide Try.prog w .any base 61 v1) (h1 : Rd Try.prog w 61 v1.cells.toList)
    (ok2 : Value.okWide Try.prog w .any base 62 v2) (h2 : Rd Try.prog w 62 v2.cells.toList) (v : ByteArray) (hv : v.size ≤ maxLen) : Calls Try.prog 8 #[v0, v1, v2, .string v] w fun e w' => e = .returned (.bool true) ∧ Below w.heap.size w w' := by
  obtain ⟨c, ve, vl, vs, rfl, hR, hB⟩ := cell_of ok0 h0
  obtain ⟨d, rfl⟩ := dot_of ok1 h1
  obtain ⟨l, hl, hb⟩ := dots_of ok2 h2
  obtain ⟨a, n, m, rfl⟩ := okWide_slice Try.underlying62 ok2
  exact orsets_walk w hR hB d hl hb v hv
end Go.Proofs.Ytheejjifcpjdbaa

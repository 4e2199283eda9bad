/- OrsetTexts at what the row hands in. -/
import Derived.Test.YtheejjifcpjdbaaOTexts
import Derived.Test.YtheejjifcpjdbaaOpen9
namespace Go.Proofs.Ytheejjifcpjdbaa
set_option linter.unusedVariables false
set_option linter.unusedSimpArgs false
open Go.RowKit Go.Lib Go.Tt Go.WideShapes
set_option maxRecDepth 100000 in
theorem texts_row {base : Nat} (w : World) {v : Value} (ok : Value.okWide Try.prog w .any base 45 v) (h : Rd Try.prog w 45 v.cells.toList) : Calls Try.prog 12 #[v] w fun e w' => e = .returned (.bool true) ∧ Below w.heap.size w w' := by
  obtain ⟨l, hl, hm⟩ := strs_of ok h
  obtain ⟨a, n, c, rfl⟩ := okWide_slice Try.underlying45 ok
  exact otexts_walk w hl fun x hx => Nat.le_trans (hm x hx) (by unfold reachBytes maxLen; omega)
end Go.Proofs.Ytheejjifcpjdbaa

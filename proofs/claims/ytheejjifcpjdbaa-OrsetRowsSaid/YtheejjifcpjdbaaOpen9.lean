/- Arguments of the sets' laws, opened. -/
import Derived.Test.YtheejjifcpjdbaaRow
import Derived.Test.YtheejjifcpjdbaaData
import Derived.Test.YtheejjifcpjdbaaCells0
namespace Go.Proofs.Ytheejjifcpjdbaa
set_option linter.unusedVariables false
set_option linter.unusedSimpArgs false
open Go.RowKit Go.Lib Go.Tt Go.WideShapes
set_option maxRecDepth 10000
/-- Texts that came in, with their bound. -/
def eStrR : Enc {s : ByteArray // s.size ≤ reachBytes} := ⟨1, fun s => [.string s.1], fun _ => rfl, fun x u hu => by simp at hu; subst hu; rfl, by decide⟩
theorem strsR {w : World} {v : Value} {l : List {s : ByteArray // s.size ≤ reachBytes}} (h : RdS w eStrR v l) : RdS w eStr v (l.map (·.1)) := by
  obtain ⟨a, c, rfl, h1, h2, h3, h4⟩ := h
  have hf : eStr.flat (l.map (·.1)) = eStrR.flat l := by
    induction l with
    | nil => rfl
    | cons x l ih => exact congrArg (Value.string x.1 :: ·) (by
        clear h1 h3 h4 ih
        induction l with
        | nil => rfl
        | cons y l ih => exact congrArg (Value.string y.1 :: ·) ih)
  exact ⟨a, c, by rw [List.length_map], by rw [List.length_map]; exact h1, h2, by rw [List.length_map]; exact h3, by rw [List.length_map, hf]; exact h4⟩
theorem strs_of {base : Nat} {w : World} {v : Value} (ok : Value.okWide Try.prog w .any base 45 v) (h : Rd Try.prog w 45 v.cells.toList) : ∃ l, RdS w eStr v l ∧ ∀ x ∈ l, x.size ≤ reachBytes := by
  obtain ⟨a, n, c, rfl⟩ := okWide_slice Try.underlying45 ok
  obtain ⟨l, hl, -⟩ := rdS_of (E := eStrR) rfl ⟨a, n, c, rfl⟩ Try.underlying45 (by kernel_rfl) (fun cs hR => by
    obtain ⟨s, rfl, hs⟩ := hR.string Try.underlying9
    exact ⟨⟨s, hs⟩, rfl⟩) h
  exact ⟨_, strsR hl, fun x hx => by obtain ⟨y, -, rfl⟩ := List.mem_map.1 hx; exact y.2⟩
end Go.Proofs.Ytheejjifcpjdbaa

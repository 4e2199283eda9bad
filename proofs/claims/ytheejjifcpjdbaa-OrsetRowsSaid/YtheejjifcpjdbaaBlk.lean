/- A whole struct stored into its block, in one step. No program in sight. -/
import Derived.Test.YtheejjifcpjdbaaData
import Derived.Laws.CopyRow
namespace Go.Tt
set_option linter.unusedVariables false
set_option linter.unusedSimpArgs false
open Go.RowKit Go.Lib
section
variable {P : Program}
theorem run_sto (w : World) {b : Nat} {cs : Array Value} {vs : List Value} {t : TypeId} (hB : w.heap[b]? = some (.cells cs t (0, 0))) (hi : (P.info? t).map (·.size) = some vs.length) (hl : cs.size = vs.length) (one : ∀ v ∈ vs, v.oneCell' = true) :
    (Instr.storeAt t (.pointer (some ⟨b, 0, none⟩)) (.agg vs.toArray)).run P w = .ok () (w.setRow b vs.toArray) := by
  obtain ⟨i, hi', hs⟩ := Option.map_eq_some_iff.1 hi
  have hst := run_storeCells_at P b 0 t vs 0 cs w hB (by omega) one
  have e : (cs.toList.take (0 + 0) ++ vs ++ cs.toList.drop (0 + 0 + vs.length)).toArray = vs.toArray := by
    rw [List.drop_of_length_le (by rw [Array.length_toList]; omega)]
    simp
  rw [e] at hst
  simp [Instr.storeAt, Instr.sureAddr, storeVar, sizeOf, typeInfo, hi', hs, Value.cells, hst]
theorem wpList_sto (w : World) {ops : Array Oper} {rest : List Oper} {o : Oper} {a : Act} {Q : Exit → Act → World → Prop} (hgd : o.guard = none) (p x : Operand) (t : TypeId) (ho : o.op = .store t p x)
    {b : Nat} {cs : Array Value} {vs : List Value} (hB : w.heap[b]? = some (.cells cs t (0, 0))) (hi : (P.info? t).map (·.size) = some vs.length) (hl : cs.size = vs.length) (one : ∀ v ∈ vs, v.oneCell' = true)
    (hp : a.eval p = .pointer (some ⟨b, 0, none⟩)) (hx : a.eval x = .agg vs.toArray)
    (h : ∀ w', w'.heap[b]? = some (.cells vs.toArray t (0, 0)) → Frm (fun k => k = b) w w' → w'.heap.size = w.heap.size → wpList P ops Q rest (a.put o.dst undef) w') : wpList P ops Q (o :: rest) a w := by
  refine wpList_plain hgd fun K hK => ?_
  have hr := run_sto (P := P) w hB hi hl one
  unfold Oper.wp
  simp [execOp, ho, hp, hx, hr, Result.andThen]
  exact hK _ _ (h _ (setRow_heap w b cs _ t _ hB) ⟨rfl, rfl, rfl, by simp, fun k _ hk => setRow_other w b k _ hk⟩ (by simp))
end
end Go.Tt

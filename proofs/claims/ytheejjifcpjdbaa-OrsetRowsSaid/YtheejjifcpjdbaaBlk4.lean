/- A struct stored into a row; a row cleared. No program in sight. -/
import Derived.Test.YtheejjifcpjdbaaBlk3
namespace Go.Tt
set_option linter.unusedVariables false
set_option linter.unusedSimpArgs false
open Go.RowKit Go.Lib
section
variable {P : Program} {α : Type}
theorem run_stoAt (w : World) {b off : Nat} {cur : Array Value} {vs : List Value} {t e : TypeId} (hB : w.heap[b]? = some (.cells cur e (0, 0))) (hi : (P.info? t).map (·.size) = some vs.length) (hl : off + vs.length ≤ cur.size) (one : ∀ v ∈ vs, v.oneCell' = true) :
    (Instr.storeAt t (.pointer (some ⟨b, off, none⟩)) (.agg vs.toArray)).run P w = .ok () (w.setRow b (rowPut cur.toList off vs).toArray) := by
  obtain ⟨i, hi', hs⟩ := Option.map_eq_some_iff.1 hi
  have hst := run_storeCells_at P b off e vs 0 cur w hB (by omega) one
  simp only [Nat.add_zero] at hst
  simp [Instr.storeAt, Instr.sureAddr, storeVar, sizeOf, typeInfo, hi', hs, Value.cells, hst, rowPut]
theorem wpList_stoAt (w : World) {ops : Array Oper} {rest : List Oper} {o : Oper} {a : Act} {Q : Exit → Act → World → Prop} (hgd : o.guard = none) (p x : Operand) (t : TypeId) (ho : o.op = .store t p x)
    {b off : Nat} {cur : Array Value} {vs : List Value} {e : TypeId} (hB : w.heap[b]? = some (.cells cur e (0, 0))) (hi : (P.info? t).map (·.size) = some vs.length) (hl : off + vs.length ≤ cur.size) (one : ∀ v ∈ vs, v.oneCell' = true)
    (hp : a.eval p = .pointer (some ⟨b, off, none⟩)) (hx : a.eval x = .agg vs.toArray)
    (h : ∀ w', w'.heap[b]? = some (.cells (rowPut cur.toList off vs).toArray e (0, 0)) → Frm (fun k => k = b) w w' → w'.heap.size = w.heap.size → wpList P ops Q rest (a.put o.dst undef) w') : wpList P ops Q (o :: rest) a w := by
  refine wpList_plain hgd fun K hK => ?_
  have hr := run_stoAt (P := P) w hB hi hl one
  unfold Oper.wp
  simp [execOp, ho, hp, hx, hr, Result.andThen]
  exact hK _ _ (h _ (setRow_heap w b cur _ e _ hB) ⟨rfl, rfl, rfl, by simp, fun k _ hk => setRow_other w b k _ hk⟩ (by simp))
theorem wpList_clr (w : World) {ops : Array Oper} {rest : List Oper} {o : Oper} {a : Act} {Q : Exit → Act → World → Prop} (hgd : o.guard = none) (x : Operand) (t e : TypeId)
    (ho : o.op = .call { callee := .builtin .clear, args := #[x], argTypes := #[t] }) (ht : P.underlying t = some (.slice e)) {z : Value} (hz : ∀ w, (zeroValue e).run P w = .ok z w)
    {b off n c : Nat} {cur : Array Value} (one : ∀ v ∈ (Builtin.zeroCells z.cells n).toList, v.oneCell' = true) (hn : 0 < n) (hB : w.heap[b]? = some (.cells cur e (0, 0))) (hl : off + (Builtin.zeroCells z.cells n).size ≤ cur.size) (hx : a.eval x = .slice (some ⟨b, off, none⟩) n c)
    (h : ∀ w', w'.heap[b]? = some (.cells (rowPut cur.toList off (Builtin.zeroCells z.cells n).toList).toArray e (0, 0)) → Frm (fun k => k = b) w w' → w'.heap.size = w.heap.size → wpList P ops Q rest (a.put o.dst (.tuple #[])) w') : wpList P ops Q (o :: rest) a w := by
  refine wpList_plain hgd fun K hK => ?_
  have hst := run_storeCells_at P b off e (Builtin.zeroCells z.cells n).toList 0 cur w hB (by simpa using hl) one
  simp only [Nat.add_zero] at hst
  obtain ⟨m, rfl⟩ : ∃ m, n = m + 1 := ⟨n - 1, by omega⟩
  have hr : (Builtin.clear_ #[t] o.type #[.slice (some ⟨b, off, none⟩) (m + 1) c]).run P w = .ok (.tuple #[]) (w.setRow b (rowPut cur.toList off (Builtin.zeroCells z.cells (m + 1)).toList).toArray) := by
    simp [Builtin.clear_, run_underlying ht, hz, hst, rowPut]
  unfold Oper.wp execOp
  simp only [ho, resolve, invoke, builtin, Sem.run_bind, Sem.run_pure, Result.andThen_ok, List.map_toArray, List.map_cons, List.map_nil, hx, hr]
  exact hK _ _ (h _ (setRow_heap w b cur _ e _ hB) ⟨rfl, rfl, rfl, by simp, fun k _ hk => setRow_other w b k _ hk⟩ (by simp))
theorem row_app {E : Enc α} {row : List Value} {i : Nat} {x : α} {fl : List α} (hfl : fl.length = i) (ht : row.take (i * E.k) = E.flat fl) (hfit : (i + 1) * E.k ≤ row.length) :
    (rowPut row (i * E.k) (E.f x)).take ((i + 1) * E.k) = E.flat (fl ++ [x]) ∧ ∀ m, (i + 1) * E.k ≤ m → (rowPut row (i * E.k) (E.f x))[m]? = row[m]? := by
  have hx : (E.f x).length = E.k := E.len x
  have hs : (i + 1) * E.k = i * E.k + E.k := by rw [Nat.add_mul, Nat.one_mul]
  have hl : i * E.k + (E.f x).length ≤ row.length := by omega
  have htl : (E.flat fl).length = i * E.k := by rw [E.flat_len, hfl]
  constructor
  · rw [E.flat_append, E.flat_one]
    apply List.ext_getElem?
    intro j
    rw [List.getElem?_take]
    by_cases hj : j < (i + 1) * E.k
    · rw [if_pos hj, rowPut_at _ _ _ hl]
      by_cases c1 : j < i * E.k
      · rw [if_pos c1, List.getElem?_append_left (by omega), ← ht, List.getElem?_take, if_pos c1]
      · rw [if_neg c1, if_pos (by omega), List.getElem?_append_right (by omega), htl]
    · rw [if_neg hj]
      exact (List.getElem?_eq_none (by simp only [List.length_append]; omega)).symm
  · intro m hm
    rw [rowPut_at _ _ _ hl, if_neg (by omega), if_neg (by omega)]
/-- What a row holds ahead of a store stands. -/
theorem row_keep {row cs : List Value} {o k : Nat} (hl : o + cs.length ≤ row.length) (hk : k ≤ o) : (rowPut row o cs).take k = row.take k := by
  apply List.ext_getElem?
  intro j
  rw [List.getElem?_take, List.getElem?_take]
  by_cases hj : j < k
  · rw [if_pos hj, if_pos hj, rowPut_at _ _ _ hl, if_pos (by omega)]
  · rw [if_neg hj, if_neg hj]
end
end Go.Tt

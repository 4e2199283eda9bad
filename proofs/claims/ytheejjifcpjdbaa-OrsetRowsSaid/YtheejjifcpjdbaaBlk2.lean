/- xs[k:] of what reads, in one step. No program in sight. -/
import Derived.Test.YtheejjifcpjdbaaBlk
namespace Go.Tt
set_option linter.unusedVariables false
set_option linter.unusedSimpArgs false
open Go.RowKit Go.Lib
section
variable {P : Program} {α : Type}
theorem Enc.flat_drop (E : Enc α) (l : List α) (k : Nat) (hk : k ≤ l.length) : ∀ m u, (E.flat (l.drop k))[m]? = some u → (E.flat l)[k * E.k + m]? = some u := by
  intro m u hu
  have e : E.flat l = E.flat (l.take k) ++ E.flat (l.drop k) := by rw [← E.flat_append, List.take_append_drop]
  have hl : (E.flat (l.take k)).length = k * E.k := by rw [E.flat_len, List.length_take, Nat.min_eq_left hk]
  rw [e, List.getElem?_append_right (by omega), hl, Nat.add_sub_cancel_left]
  exact hu
theorem RdS_sliced {w : World} {E : Enc α} {a : Option Addr} {n c k : Nat} {l : List α} (h : RdS w E (.slice a n c) l) (hk : k ≤ n) : ∃ a' c', sliced a k n c E.k = .slice a' (n - k) c' ∧ RdS w E (.slice a' (n - k) c') (l.drop k) := by
  obtain ⟨a', c', h1, h2, h3, h4, h5⟩ := h
  simp only [Value.slice.injEq] at h1
  obtain ⟨rfl, rfl, rfl⟩ := h1
  refine ⟨_, _, rfl, _, _, by rw [List.length_drop], by rw [List.length_drop]; omega, by omega, ?_, ?_⟩
  · intro he
    by_cases hc : c = k
    · rw [List.length_drop]; omega
    · rw [if_neg hc] at he
      have : a = none := by simpa using he
      have := h4 this
      rw [List.length_drop]; omega
  · rw [List.length_drop]
    intro hpos
    obtain ⟨b, off, rfl, hcell⟩ := h5 (by omega)
    rw [if_neg (by omega)]
    refine ⟨b, off + k * E.k, by simp [Addr.add_lit], fun m u hu => ?_⟩
    rw [Nat.add_assoc]
    exact hcell _ u (E.flat_drop l k hk m u hu)
theorem wpList_from (w : World) {ops : Array Oper} {rest : List Oper} {o : Oper} {a : Act} {Q : Exit → Act → World → Prop} (hgd : o.guard = none) (x lo : Operand) (t e : TypeId) (ho : o.op = .slice t x (some lo) none none)
    {E : Enc α} (ht : P.underlying t = some (.slice e)) (he : P.elem t = e) (hi : (P.info? e).map (·.size) = some E.k) {s : Option Addr} {n c k : Nat} {l : List α} (h : RdS w E (.slice s n c) l) (hk : k ≤ n) (hx : a.eval x = .slice s n c) (hl : a.eval lo = .int .i64 k)
    (hK : ∀ a' c', RdS w E (.slice a' (n - k) c') (l.drop k) → wpList P ops Q rest (a.put o.dst (.slice a' (n - k) c')) w) : wpList P ops Q (o :: rest) a w := by
  refine wpList_plain hgd fun K hK' => ?_
  obtain ⟨a', c', e1, e2⟩ := RdS_sliced h hk
  obtain ⟨i, hi', hs⟩ := Option.map_eq_some_iff.1 hi
  subst he
  have hr : (Instr.sliceAt t (.slice s n c) (some (.int .i64 (k : Int))) none none).run P w = .ok (.slice a' (n - k) c') w := by
    rw [run_sliceAt_slice w t _ _ _ _ ht, run_slice_l w t s n c ht .i64 k (by omega) (by omega)]
    simp [sizeOf, typeInfo, hi', hs, e1]
  unfold Oper.wp
  simp [execOp, ho, hx, hl, hr, Result.andThen]
  exact hK' _ _ (hK a' c' e2)
end
end Go.Tt

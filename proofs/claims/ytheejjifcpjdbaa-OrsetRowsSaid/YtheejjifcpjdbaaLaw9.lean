/- Sets' plain laws: values in their row, each once. No program in sight. -/
import Derived.Test.YtheejjifcpjdbaaVals
namespace Go.Proofs.Ytheejjifcpjdbaa
set_option linter.unusedVariables false
set_option linter.unusedSimpArgs false
open Go.RowKit Go.Lib Go.Tt
/-- A text's bytes come ahead of another's. -/
def ltB (x y : ByteArray) : Prop := x.data.toList < y.data.toList
theorem leL_trans (a b c : List UInt8) (h1 : decide (a ≤ b) = true) (h2 : decide (b ≤ c) = true) : decide (a ≤ c) = true := decide_eq_true (List.le_trans (of_decide_eq_true h1) (of_decide_eq_true h2))
theorem leL_total (a b : List UInt8) : (decide (a ≤ b) || decide (b ≤ a)) = true := by
  rcases List.le_total (α := UInt8) a b with h | h <;> simp [h]
theorem sort_pw (l : List (List UInt8)) : (l.mergeSort fun x y => decide (x ≤ y)).Pairwise fun x y => x ≤ y :=
  (List.pairwise_mergeSort leL_trans leL_total l).imp fun h => of_decide_eq_true h
theorem ltL_of {a b : List UInt8} (h : a ≤ b) (hne : a ≠ b) : a < b := by
  rcases Classical.em (a < b) with h' | h'
  · exact h'
  · exact absurd (List.le_antisymm h (List.not_lt.1 h')) hne
theorem data_inj {x y : ByteArray} (h : x.data.toList = y.data.toList) : x = y := by
  cases x; cases y; simp_all [Array.toList_inj]
theorem sortB_pw (l : List ByteArray) : (sortB l).Pairwise fun x y => x.data.toList ≤ y.data.toList := by
  unfold sortB
  rw [List.pairwise_map]
  exact (sort_pw _).imp fun h => by simpa using h
theorem mem_sortB {l : List ByteArray} {x : ByteArray} : x ∈ sortB l ↔ x ∈ l := by
  unfold sortB
  simp only [List.mem_map, List.mem_mergeSort]
  constructor
  · rintro ⟨b, ⟨y, hy, rfl⟩, rfl⟩
    have : (⟨y.data.toList.toArray⟩ : ByteArray) = y := by simp
    rw [this]; exact hy
  · intro h
    exact ⟨_, ⟨x, h, rfl⟩, by simp⟩
theorem get!_of {l : List ByteArray} {j : Nat} (h : j < l.length) : l.toArray[j]! = l[j] := by simp [h]
theorem mem_compact {l : List ByteArray} {x : ByteArray} : x ∈ Lib.compact l ↔ x ∈ l := by
  unfold Lib.compact Lib.compactUpTo
  simp only [List.mem_map, List.mem_filter, List.mem_range]
  constructor
  · rintro ⟨j, ⟨hj, -⟩, rfl⟩
    rw [get!_of hj]; exact List.getElem_mem hj
  · intro h
    obtain ⟨j0, hj0, e0⟩ := List.getElem_of_mem h
    have key : ∀ (j : Nat) (hj : j < l.length), l[j] = x → ∃ k, (k < l.length ∧ Lib.keeps l.toArray k = true) ∧ l.toArray[k]! = x := by
      intro j
      induction j with
      | zero => intro hj e; exact ⟨0, ⟨hj, by simp [Lib.keeps]⟩, by rw [get!_of hj, e]⟩
      | succ j ih =>
        intro hj e
        by_cases h1 : l[j] = x
        · exact ih (by omega) h1
        · refine ⟨j + 1, ⟨hj, ?_⟩, by rw [get!_of hj, e]⟩
          unfold Lib.keeps
          refine decide_eq_true (.inr ?_)
          rw [get!_of hj, get!_of (by omega : j + 1 - 1 < l.length), e]
          exact fun e' => h1 e'.symm
    exact key j0 hj0 e0
theorem compact_pw {l : List ByteArray} (h : l.Pairwise fun x y => x.data.toList ≤ y.data.toList) : (Lib.compact l).Pairwise ltB := by
  unfold Lib.compact Lib.compactUpTo
  rw [List.pairwise_map]
  have hr : (List.range l.length).Pairwise (· < ·) := List.pairwise_lt_range
  refine List.Pairwise.imp_of_mem (R := fun i j => i < j) ?_ (hr.filter _)
  intro i j hi hj hij
  obtain ⟨hj1, hj2⟩ := List.mem_filter.1 hj
  have hjl := List.mem_range.1 hj1
  have hk := of_decide_eq_true hj2
  rcases hk with hk | hk
  · omega
  · rw [get!_of hjl, get!_of (by omega : j - 1 < l.length)] at hk
    rw [get!_of hjl, get!_of (by omega : i < l.length)]
    have hp := List.pairwise_iff_getElem.1 h
    have h1 : l[j - 1].data.toList ≤ l[j].data.toList := hp _ _ _ _ (by omega)
    have h2 : l[j - 1].data.toList < l[j].data.toList := ltL_of h1 fun e => hk (data_inj e.symm)
    rcases Nat.lt_or_ge i (j - 1) with h3 | h3
    · have h4 : l[i].data.toList ≤ l[j - 1].data.toList := hp _ _ _ _ h3
      exact List.lt_of_le_of_lt h4 h2
    · have : i = j - 1 := by omega
      subst this
      exact h2
theorem valsOf_pw (l : List En) : (valsOf l).Pairwise ltB := compact_pw (sortB_pw _)
theorem mem_valsOf {l : List En} {x : ByteArray} : x ∈ valsOf l ↔ ∃ e ∈ l, e.2.2 = x := by
  unfold valsOf
  rw [mem_compact, mem_sortB, List.mem_map]
theorem ltB_irrefl (x : ByteArray) : ¬ ltB x x := List.lt_irrefl _
theorem ltB_asymm {x y : ByteArray} (h : ltB x y) : ¬ ltB y x := List.lt_asymm h
/-- One row of texts has just one strict order. -/
theorem pw_unique : ∀ {a b : List ByteArray}, a.Pairwise ltB → b.Pairwise ltB → (∀ x, x ∈ a ↔ x ∈ b) → a = b := by
  intro a
  induction a with
  | nil =>
    intro b _ _ h
    cases b with
    | nil => rfl
    | cons y b => exact absurd ((h y).2 (List.mem_cons_self)) (by simp)
  | cons x a ih =>
    intro b ha hb h
    cases b with
    | nil => exact absurd ((h x).1 (List.mem_cons_self)) (by simp)
    | cons y b =>
      obtain ⟨ha1, ha2⟩ := List.pairwise_cons.1 ha
      obtain ⟨hb1, hb2⟩ := List.pairwise_cons.1 hb
      have hxy : x = y := by
        rcases List.mem_cons.1 ((h x).1 List.mem_cons_self) with e | e
        · exact e
        · rcases List.mem_cons.1 ((h y).2 List.mem_cons_self) with e' | e'
          · exact e'.symm
          · exact absurd (ha1 y e') (ltB_asymm (hb1 x e))
      subst hxy
      rw [ih ha2 hb2 fun z => ?_]
      have hz := h z
      simp only [List.mem_cons] at hz
      constructor
      · intro h1
        rcases hz.1 (.inr h1) with e | e
        · exact absurd (ha1 z h1) (e ▸ ltB_irrefl _)
        · exact e
      · intro h1
        rcases hz.2 (.inr h1) with e | e
        · exact absurd (hb1 z h1) (e ▸ ltB_irrefl _)
        · exact e
theorem valsOf_eq {l : List En} {m : List ByteArray} (hm : m.Pairwise ltB) (h : ∀ x, x ∈ m ↔ ∃ e ∈ l, e.2.2 = x) : valsOf l = m :=
  pw_unique (valsOf_pw l) hm fun x => mem_valsOf.trans (h x).symm
end Go.Proofs.Ytheejjifcpjdbaa

/- Sets put in whatever row are one: plain laws. -/
import Derived.Test.YtheejjifcpjdbaaLaw9b
namespace Go.Proofs.Ytheejjifcpjdbaa
set_option linter.unusedVariables false
set_option linter.unusedSimpArgs false
open Go.RowKit Go.Lib Go.Tt
def dE (e : En) : Dt := (e.1, e.2.1)
def rE (a b : En) : Prop := dotLess (dE a) (dE b) = true
theorem dl_iff {a b : Dt} : dotLess a b = true ↔ a.1 < b.1 ∨ a.1 = b.1 ∧ a.2 < b.2 := by unfold dotLess; exact decide_eq_true_iff
theorem dl_trans {a b c : Dt} (h : dotLess a b = true) (h' : dotLess b c = true) : dotLess a c = true := by rw [dl_iff] at *; omega
theorem dl_irrefl (a : Dt) : dotLess a a ≠ true := by rw [Ne, dl_iff]; omega
theorem dl_total {a b : Dt} (h : dotLess a b = false) (hne : b ≠ a) : dotLess b a = true := by
  have h1 : ¬ (a.1 < b.1 ∨ a.1 = b.1 ∧ a.2 < b.2) := fun e => by rw [dl_iff.2 e] at h; cases h
  rw [dl_iff]
  have h2 : ¬ (b.1 = a.1 ∧ b.2 = a.2) := fun e => hne (Prod.ext e.1 e.2)
  omega
theorem put_pw {l : List En} {d : Dt} {v : ByteArray} (hp : l.Pairwise rE) (hne : ∀ e ∈ l, (e.1, e.2.1) ≠ d) : (putEn l d v).Pairwise rE := by
  have hg := List.pairwise_iff_getElem.1 hp
  have h1 : ∀ y ∈ l.take (putAt l d), dotLess (dE y) d = true := by
    intro y hy
    obtain ⟨j, hj, rfl⟩ := List.getElem_of_mem hy
    rw [List.length_take] at hj
    rw [List.getElem_take]
    have := List.not_of_lt_findIdx (p := fun e : En => dotLess d (e.1, e.2.1)) (xs := l) (i := j) (by unfold putAt at hj; omega)
    have h' : dotLess d (dE (l[j]'(by omega))) = false := by cases hq : dotLess d (dE (l[j]'(by omega))) with | false => rfl | true => exact absurd hq (by show ¬ dotLess d (l[j].1, l[j].2.1) = true; rw [this]; decide)
    exact dl_total h' (hne _ (List.getElem_mem _))
  have h2 : ∀ y ∈ l.drop (putAt l d), dotLess d (dE y) = true := by
    intro y hy
    obtain ⟨j, hj, rfl⟩ := List.getElem_of_mem hy
    rw [List.length_drop] at hj
    rw [List.getElem_drop]
    have h0 : dotLess d (dE (l[putAt l d]'(by omega))) = true := List.findIdx_getElem (xs := l) (p := fun e : En => dotLess d (e.1, e.2.1)) (w := by unfold putAt at hj; omega)
    rcases Nat.eq_zero_or_pos j with rfl | hj0
    · exact h0
    · exact dl_trans h0 (hg _ _ _ _ (by omega))
  unfold putEn
  rw [List.pairwise_append, List.pairwise_cons]
  refine ⟨hp.sublist (List.take_sublist _ _), ⟨fun y hy => h2 y hy, hp.sublist (List.drop_sublist _ _)⟩, fun a ha b hb => ?_⟩
  rcases List.mem_cons.1 hb with rfl | hb
  · exact h1 a ha
  · exact dl_trans (h1 a ha) (h2 b hb)
theorem rE_unique : ∀ {a b : List En}, a.Pairwise rE → b.Pairwise rE → (∀ x, x ∈ a ↔ x ∈ b) → a = b := by
  intro a
  induction a with
  | nil =>
    intro b _ _ h
    cases b with
    | nil => rfl
    | cons y b => exact absurd ((h y).2 (List.mem_cons_self)) (by simp)
  | cons x a ih =>
    intro b ha hb h
    cases b with
    | nil => exact absurd ((h x).1 (List.mem_cons_self)) (by simp)
    | cons y b =>
      obtain ⟨ha1, ha2⟩ := List.pairwise_cons.1 ha
      obtain ⟨hb1, hb2⟩ := List.pairwise_cons.1 hb
      have hxy : x = y := by
        rcases List.mem_cons.1 ((h x).1 List.mem_cons_self) with e | e
        · exact e
        · rcases List.mem_cons.1 ((h y).2 List.mem_cons_self) with e' | e'
          · exact e'.symm
          · exact absurd (dl_trans (ha1 y e') (hb1 x e)) (dl_irrefl _)
      subst hxy
      rw [ih ha2 hb2 fun z => ?_]
      have hz := h z
      simp only [List.mem_cons] at hz
      constructor
      · intro h1
        rcases hz.1 (.inr h1) with e | e
        · exact absurd (ha1 z h1) (e ▸ dl_irrefl _)
        · exact e
      · intro h1
        rcases hz.2 (.inr h1) with e | e
        · exact absurd (hb1 z h1) (e ▸ dl_irrefl _)
        · exact e
theorem addL_pw (f : Nat → ByteArray) : ∀ n, (addL f n).Pairwise rE
  | 0 => List.Pairwise.nil
  | n + 1 => put_pw (addL_pw f n) addL_new
/-- The same from behind. -/
def dnL (f : Nat → ByteArray) (k : Nat) : Nat → List En
  | 0 => []
  | n + 1 => putEn (dnL f k n) (dt9 (k - 1 - n)) (f (k - 1 - n))
theorem dnL_len (f : Nat → ByteArray) (k : Nat) : ∀ n, (dnL f k n).length = n
  | 0 => rfl
  | n + 1 => by rw [dnL, putEn_len, dnL_len f k n]
theorem mem_dnL {f : Nat → ByteArray} {k : Nat} {x : En} : ∀ {n : Nat}, x ∈ dnL f k n ↔ ∃ i, i < n ∧ x = ((dt9 (k - 1 - i)).1, (dt9 (k - 1 - i)).2, f (k - 1 - i))
  | 0 => by simp [dnL]
  | n + 1 => by
    rw [dnL, mem_putEn, mem_dnL]
    constructor
    · rintro (h | ⟨i, hi, h⟩)
      · exact ⟨n, by omega, h⟩
      · exact ⟨i, by omega, h⟩
    · rintro ⟨i, hi, h⟩
      by_cases e : i = n
      · subst e; exact .inl h
      · exact .inr ⟨i, by omega, h⟩
theorem dnL_new {f : Nat → ByteArray} {k n : Nat} (h : n < k) : ∀ e ∈ dnL f k n, (e.1, e.2.1) ≠ dt9 (k - 1 - n) := by
  intro e he
  obtain ⟨i, hi, rfl⟩ := mem_dnL.1 he
  intro h'
  have := dt9_inj (show dt9 (k - 1 - i) = dt9 (k - 1 - n) from h')
  omega
theorem dnL_pw (f : Nat → ByteArray) (k : Nat) : ∀ n, n ≤ k → (dnL f k n).Pairwise rE
  | 0, _ => List.Pairwise.nil
  | n + 1, h => put_pw (dnL_pw f k n (by omega)) (dnL_new (by omega))
/-- Puts in either row leave one set. -/
theorem rows_one (f : Nat → ByteArray) (k : Nat) : dnL f k k = addL f k :=
  rE_unique (dnL_pw f k k (Nat.le_refl _)) (addL_pw f k) fun x => by
    rw [mem_dnL, mem_addL]
    constructor
    · rintro ⟨i, hi, h⟩; exact ⟨k - 1 - i, by omega, h⟩
    · rintro ⟨i, hi, rfl⟩; exact ⟨k - 1 - i, by omega, by rw [show k - 1 - (k - 1 - i) = i by omega]⟩
/-- What is dropped, told by a mark on each put. -/
def goneL (g : Nat → Bool) (n : Nat) : List Dt := ((List.range n).filter g).map dt9
theorem goneL_succ (g : Nat → Bool) (n : Nat) : goneL g (n + 1) = goneL g n ++ if g n then [dt9 n] else [] := by
  unfold goneL
  rw [List.range_succ, List.filter_append, List.map_append]
  congr 1
  by_cases h : g n = true <;> simp [h]
theorem mem_goneL {g : Nat → Bool} {n i : Nat} : dt9 i ∈ goneL g n ↔ i < n ∧ g i = true := by
  unfold goneL
  rw [List.mem_map]
  constructor
  · rintro ⟨j, hj, h⟩
    obtain rfl := dt9_inj h
    obtain ⟨h1, h2⟩ := List.mem_filter.1 hj
    exact ⟨List.mem_range.1 h1, h2⟩
  · rintro ⟨h1, h2⟩
    exact ⟨i, List.mem_filter.2 ⟨List.mem_range.2 h1, h2⟩, rfl⟩
theorem goneL_le (g : Nat → Bool) (n : Nat) : (goneL g n).length ≤ n := by
  unfold goneL
  rw [List.length_map]
  exact Nat.le_trans (List.length_filter_le _ _) (Nat.le_of_eq List.length_range)
theorem left_len (f : Nat → ByteArray) (g : Nat → Bool) (k : Nat) : (dropped (addL f k) (goneL g k)).length + (goneL g k).length = k := by
  have key : ∀ n, n ≤ k → ((addL f n).filter fun e => decide ((e.1, e.2.1) ∉ goneL g k)).length + (goneL g n).length = n := by
    intro n
    induction n with
    | zero => intro _; rfl
    | succ n ih =>
      intro h
      rw [addL, count_putEn, goneL_succ, List.length_append]
      have := ih (by omega)
      have hm : ((dt9 n).1, (dt9 n).2) ∈ goneL g k ↔ g n = true := by
        rw [show ((dt9 n).1, (dt9 n).2) = dt9 n from rfl, mem_goneL]
        exact ⟨fun h => h.2, fun h' => ⟨by omega, h'⟩⟩
      by_cases hg : g n = true
      · have h1 : decide (((dt9 n).1, (dt9 n).2) ∉ goneL g k) = false := decide_eq_false fun h => h (hm.2 hg)
        simp only [h1, Bool.false_eq_true, if_false, if_pos hg, List.length_singleton]; omega
      · have h1 : decide (((dt9 n).1, (dt9 n).2) ∉ goneL g k) = true := decide_eq_true fun h => hg (hm.1 h)
        simp only [h1, if_true, if_neg hg, List.length_nil]; omega
  exact key k (Nat.le_refl _)
theorem mem_left {f : Nat → ByteArray} {g : Nat → Bool} {k : Nat} {x : ByteArray} : (∃ e ∈ dropped (addL f k) (goneL g k), e.2.2 = x) ↔ ∃ i, i < k ∧ g i = false ∧ f i = x := by
  unfold dropped
  constructor
  · rintro ⟨e, he, rfl⟩
    obtain ⟨h1, h2⟩ := List.mem_filter.1 he
    obtain ⟨i, hi, rfl⟩ := mem_addL.1 h1
    have h3 : dt9 i ∉ goneL g k := of_decide_eq_true h2
    refine ⟨i, hi, ?_, rfl⟩
    cases hg : g i with
    | false => rfl
    | true => exact absurd (mem_goneL.2 ⟨hi, hg⟩) h3
  · rintro ⟨i, hi, hg, rfl⟩
    refine ⟨((dt9 i).1, (dt9 i).2, f i), List.mem_filter.2 ⟨mem_addL.2 ⟨i, hi, rfl⟩, decide_eq_true ?_⟩, rfl⟩
    intro h
    have := (mem_goneL (n := k) (i := i)).1 h
    rw [hg] at this
    cases this.2
end Go.Proofs.Ytheejjifcpjdbaa

/- Merged: OForms Law9b. -/
import Derived.Test.YtofikfkgiblblaaGreatDoorQ01
import Derived.Test.YtofikfkgiblblaaGreatDoorQ21
/- tattlelaw9.OrsetForms answers true, for every input. -/
namespace Go.Proofs.YtofikfkgiblblaaGreatDoor
set_option linter.unusedVariables false
set_option linter.unusedSimpArgs false
set_option linter.unusedVariables false
set_option linter.unusedSimpArgs false
open Go.RowKit Go.Lib Go.Tt
/-- The i-th dot. -/
def dt9 (i : Nat) : Dt := (((i % 3 : Nat) : Int), ((1 + i / 3 : Nat) : Int))
/-- The empty cell is like itself. -/
theorem zsame (w : World) : Calls Tryz.prog 17 #[.agg #[.int .i64 0, .bool false, .int .i64 0, .int .i64 0, .string ⟨#[]⟩, .int .i64 0, .int .i64 0, .slice none 0 0, .slice none 0 0, .slice none 0 0], .agg #[.int .i64 0, .bool false, .int .i64 0, .int .i64 0, .string ⟨#[]⟩, .int .i64 0, .int .i64 0, .slice none 0 0, .slice none 0 0, .slice none 0 0]] w fun e w' => e = .returned (.bool true) ∧ Frm No w w' :=
  sameCell_ok (c := ⟨0, false, (0, 0), ⟨#[]⟩, (0, 0), [], [], []⟩) ⟨RdS.nil _ _, RdS.nil _ _, RdS.nil _ _⟩ ⟨RdS.nil _ _, RdS.nil _ _, RdS.nil _ _⟩
def lf : List En := [(0, 2, ⟨#[97]⟩)]
/-- A cell of a kind that is none, with one entry. -/
def cellK (k : Int) : CellV := ⟨k, false, (0, 0), ⟨#[]⟩, (0, 0), lf, [], []⟩
end Go.Proofs.YtofikfkgiblblaaGreatDoor

/- Sets that grow put by put: plain laws. -/
namespace Go.Proofs.YtofikfkgiblblaaGreatDoor
set_option linter.unusedVariables false
set_option linter.unusedSimpArgs false
open Go.RowKit Go.Lib Go.Tt
theorem mem_putEn {l : List En} {d : Dt} {v : ByteArray} {x : En} : x ∈ putEn l d v ↔ x = (d.1, d.2, v) ∨ x ∈ l := by
  unfold putEn
  rw [List.mem_append, List.mem_cons]
  have h : x ∈ l ↔ x ∈ l.take (putAt l d) ∨ x ∈ l.drop (putAt l d) := by
    conv => lhs; rw [← List.take_append_drop (putAt l d) l]
    exact List.mem_append
  rw [h]
  constructor
  · rintro (h | h | h)
    · exact .inr (.inl h)
    · exact .inl h
    · exact .inr (.inr h)
  · rintro (h | h | h)
    · exact .inr (.inl h)
    · exact .inl h
    · exact .inr (.inr h)
theorem filter_putEn {l : List En} {d : Dt} {v : ByteArray} (p : En → Bool) : (putEn l d v).filter p = (l.take (putAt l d)).filter p ++ (if p (d.1, d.2, v) then [(d.1, d.2, v)] else []) ++ (l.drop (putAt l d)).filter p := by
  unfold putEn
  rw [List.filter_append, List.filter_cons]
  by_cases h : p (d.1, d.2, v) = true
  · rw [if_pos h, if_pos h]; simp
  · rw [if_neg h, if_neg h]; simp
theorem count_putEn {l : List En} {d : Dt} {v : ByteArray} (p : En → Bool) : ((putEn l d v).filter p).length = (l.filter p).length + if p (d.1, d.2, v) then 1 else 0 := by
  rw [filter_putEn]
  conv => rhs; rw [← List.take_append_drop (putAt l d) l]
  rw [List.filter_append]
  simp only [List.length_append]
  by_cases h : p (d.1, d.2, v) = true
  · rw [if_pos h, if_pos h, List.length_singleton]; omega
  · rw [if_neg h, if_neg h, List.length_nil]; omega
theorem dt9_inj {i j : Nat} (h : dt9 i = dt9 j) : i = j := by
  unfold dt9 at h
  have h1 := congrArg Prod.fst h
  have h2 := congrArg Prod.snd h
  simp only at h1 h2
  omega
theorem dt9_may {i : Nat} (h : i ≤ 1000) : dotMay (dt9 i) = true := by
  unfold dotMay dt9
  refine decide_eq_true ?_
  simp only
  omega
/-- The set behind n puts. -/
def addL (f : Nat → ByteArray) : Nat → List En
  | 0 => []
  | n + 1 => putEn (addL f n) (dt9 n) (f n)
theorem addL_len (f : Nat → ByteArray) : ∀ n, (addL f n).length = n
  | 0 => rfl
  | n + 1 => by rw [addL, putEn_len, addL_len f n]
theorem mem_addL {f : Nat → ByteArray} {x : En} : ∀ {n : Nat}, x ∈ addL f n ↔ ∃ i, i < n ∧ x = ((dt9 i).1, (dt9 i).2, f i)
  | 0 => by simp [addL]
  | n + 1 => by
    rw [addL, mem_putEn, mem_addL]
    constructor
    · rintro (h | ⟨i, hi, h⟩)
      · exact ⟨n, by omega, h⟩
      · exact ⟨i, by omega, h⟩
    · rintro ⟨i, hi, h⟩
      by_cases e : i = n
      · subst e; exact .inl h
      · exact .inr ⟨i, by omega, h⟩
theorem addL_new {f : Nat → ByteArray} {n : Nat} : ∀ e ∈ addL f n, (e.1, e.2.1) ≠ dt9 n := by
  intro e he
  obtain ⟨i, hi, rfl⟩ := mem_addL.1 he
  intro h
  have := dt9_inj (show dt9 i = dt9 n from h)
  omega
/-- All of one value: its dots are all. -/
theorem dots_all {f : Nat → ByteArray} {n : Nat} {v : ByteArray} (h : ∀ i, i < n → f i = v) : dotsOf (addL f n) v = (addL f n).map fun e => (e.1, e.2.1) := by
  unfold dotsOf
  rw [List.filter_eq_self.2]
  intro e he
  obtain ⟨i, hi, rfl⟩ := mem_addL.1 he
  exact decide_eq_true (h i hi)
theorem drop_all (l : List En) : dropped l (l.map fun e => (e.1, e.2.1)) = [] := by
  unfold dropped
  rw [List.filter_eq_nil_iff]
  intro e he
  simp only [decide_eq_true_eq, Classical.not_not]
  exact List.mem_map.2 ⟨e, he, rfl⟩
theorem drop_new {l : List En} {d : Dt} {v : ByteArray} (h : ∀ e ∈ l, (e.1, e.2.1) ≠ d) : dropped (putEn l d v) (l.map fun e => (e.1, e.2.1)) = [(d.1, d.2, v)] := by
  unfold dropped
  rw [filter_putEn]
  have h1 : ∀ m : List En, (∀ e ∈ m, e ∈ l) → m.filter (fun e => decide ((e.1, e.2.1) ∉ l.map fun e => (e.1, e.2.1))) = [] := by
    intro m hm
    rw [List.filter_eq_nil_iff]
    intro e he
    simp only [decide_eq_true_eq, Classical.not_not]
    exact List.mem_map.2 ⟨e, hm e he, rfl⟩
  rw [h1 _ fun e he => List.mem_of_mem_take he, h1 _ fun e he => List.mem_of_mem_drop he, if_pos]
  · rfl
  · refine decide_eq_true ?_
    rw [List.mem_map]
    rintro ⟨e, he, h2⟩
    exact h e he h2
theorem vals_nil : valsOf [] = [] := valsOf_eq List.Pairwise.nil (by simp)
theorem vals_one (e : En) : valsOf [e] = [e.2.2] := valsOf_eq (List.pairwise_singleton _ _) (by intro x; simp [eq_comm])
end Go.Proofs.YtofikfkgiblblaaGreatDoor

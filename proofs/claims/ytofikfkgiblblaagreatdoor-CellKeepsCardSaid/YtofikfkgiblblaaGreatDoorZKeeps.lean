/- Merged: Law9c KeepL KeepE LKeeps Rdr OpenR LKeepsR RowCKeeps. -/
import Derived.Test.YtofikfkgiblblaaGreatDoorQ01
import Derived.Test.YtofikfkgiblblaaGreatDoorQ02
import Derived.Test.YtofikfkgiblblaaGreatDoorQ16
import Derived.Test.YtofikfkgiblblaaGreatDoorQ22
import Derived.Test.YtofikfkgiblblaaGreatDoorQ26
import Derived.Test.YtofikfkgiblblaaGreatDoorQ30
import Derived.Test.YtofikfkgiblblaaGreatDoorQ31
import Derived.Test.YtofikfkgiblblaaGreatDoorQ40
import Derived.Test.YtofikfkgiblblaaGreatDoorQ41
import Derived.Test.YtofikfkgiblblaaGreatDoorQ42
import Derived.Test.YtofikfkgiblblaaGreatDoorQ44
/- Sets put in whatever row are one: plain laws. -/
namespace Go.Proofs.YtofikfkgiblblaaGreatDoor
set_option linter.unusedVariables false
set_option linter.unusedSimpArgs false
set_option linter.unusedVariables false
set_option linter.unusedSimpArgs false
open Go.RowKit Go.Lib Go.Tt
def dE (e : En) : Dt := (e.1, e.2.1)
def rE (a b : En) : Prop := dotLess (dE a) (dE b) = true
theorem dl_iff {a b : Dt} : dotLess a b = true ↔ a.1 < b.1 ∨ a.1 = b.1 ∧ a.2 < b.2 := by unfold dotLess; exact decide_eq_true_iff
theorem dl_trans {a b c : Dt} (h : dotLess a b = true) (h' : dotLess b c = true) : dotLess a c = true := by rw [dl_iff] at *; omega
theorem dl_irrefl (a : Dt) : dotLess a a ≠ true := by rw [Ne, dl_iff]; omega
theorem dl_total {a b : Dt} (h : dotLess a b = false) (hne : b ≠ a) : dotLess b a = true := by
  have h1 : ¬ (a.1 < b.1 ∨ a.1 = b.1 ∧ a.2 < b.2) := fun e => by rw [dl_iff.2 e] at h; cases h
  rw [dl_iff]
  have h2 : ¬ (b.1 = a.1 ∧ b.2 = a.2) := fun e => hne (Prod.ext e.1 e.2)
  omega
theorem put_pw {l : List En} {d : Dt} {v : ByteArray} (hp : l.Pairwise rE) (hne : ∀ e ∈ l, (e.1, e.2.1) ≠ d) : (putEn l d v).Pairwise rE := by
  have hg := List.pairwise_iff_getElem.1 hp
  have h1 : ∀ y ∈ l.take (putAt l d), dotLess (dE y) d = true := by
    intro y hy
    obtain ⟨j, hj, rfl⟩ := List.getElem_of_mem hy
    rw [List.length_take] at hj
    rw [List.getElem_take]
    have := List.not_of_lt_findIdx (p := fun e : En => dotLess d (e.1, e.2.1)) (xs := l) (i := j) (by unfold putAt at hj; omega)
    have h' : dotLess d (dE (l[j]'(by omega))) = false := by cases hq : dotLess d (dE (l[j]'(by omega))) with | false => rfl | true => exact absurd hq (by show ¬ dotLess d (l[j].1, l[j].2.1) = true; rw [this]; decide)
    exact dl_total h' (hne _ (List.getElem_mem _))
  have h2 : ∀ y ∈ l.drop (putAt l d), dotLess d (dE y) = true := by
    intro y hy
    obtain ⟨j, hj, rfl⟩ := List.getElem_of_mem hy
    rw [List.length_drop] at hj
    rw [List.getElem_drop]
    have h0 : dotLess d (dE (l[putAt l d]'(by omega))) = true := List.findIdx_getElem (xs := l) (p := fun e : En => dotLess d (e.1, e.2.1)) (w := by unfold putAt at hj; omega)
    rcases Nat.eq_zero_or_pos j with rfl | hj0
    · exact h0
    · exact dl_trans h0 (hg _ _ _ _ (by omega))
  unfold putEn
  rw [List.pairwise_append, List.pairwise_cons]
  refine ⟨hp.sublist (List.take_sublist _ _), ⟨fun y hy => h2 y hy, hp.sublist (List.drop_sublist _ _)⟩, fun a ha b hb => ?_⟩
  rcases List.mem_cons.1 hb with rfl | hb
  · exact h1 a ha
  · exact dl_trans (h1 a ha) (h2 b hb)
theorem rE_unique : ∀ {a b : List En}, a.Pairwise rE → b.Pairwise rE → (∀ x, x ∈ a ↔ x ∈ b) → a = b := by
  intro a
  induction a with
  | nil =>
    intro b _ _ h
    cases b with
    | nil => rfl
    | cons y b => exact absurd ((h y).2 (List.mem_cons_self)) (by simp)
  | cons x a ih =>
    intro b ha hb h
    cases b with
    | nil => exact absurd ((h x).1 (List.mem_cons_self)) (by simp)
    | cons y b =>
      obtain ⟨ha1, ha2⟩ := List.pairwise_cons.1 ha
      obtain ⟨hb1, hb2⟩ := List.pairwise_cons.1 hb
      have hxy : x = y := by
        rcases List.mem_cons.1 ((h x).1 List.mem_cons_self) with e | e
        · exact e
        · rcases List.mem_cons.1 ((h y).2 List.mem_cons_self) with e' | e'
          · exact e'.symm
          · exact absurd (dl_trans (ha1 y e') (hb1 x e)) (dl_irrefl _)
      subst hxy
      rw [ih ha2 hb2 fun z => ?_]
      have hz := h z
      simp only [List.mem_cons] at hz
      constructor
      · intro h1
        rcases hz.1 (.inr h1) with e | e
        · exact absurd (ha1 z h1) (e ▸ dl_irrefl _)
        · exact e
      · intro h1
        rcases hz.2 (.inr h1) with e | e
        · exact absurd (hb1 z h1) (e ▸ dl_irrefl _)
        · exact e
theorem addL_pw (f : Nat → ByteArray) : ∀ n, (addL f n).Pairwise rE
  | 0 => List.Pairwise.nil
  | n + 1 => put_pw (addL_pw f n) addL_new
/-- The same from behind. -/
def dnL (f : Nat → ByteArray) (k : Nat) : Nat → List En
  | 0 => []
  | n + 1 => putEn (dnL f k n) (dt9 (k - 1 - n)) (f (k - 1 - n))
theorem dnL_len (f : Nat → ByteArray) (k : Nat) : ∀ n, (dnL f k n).length = n
  | 0 => rfl
  | n + 1 => by rw [dnL, putEn_len, dnL_len f k n]
theorem mem_dnL {f : Nat → ByteArray} {k : Nat} {x : En} : ∀ {n : Nat}, x ∈ dnL f k n ↔ ∃ i, i < n ∧ x = ((dt9 (k - 1 - i)).1, (dt9 (k - 1 - i)).2, f (k - 1 - i))
  | 0 => by simp [dnL]
  | n + 1 => by
    rw [dnL, mem_putEn, mem_dnL]
    constructor
    · rintro (h | ⟨i, hi, h⟩)
      · exact ⟨n, by omega, h⟩
      · exact ⟨i, by omega, h⟩
    · rintro ⟨i, hi, h⟩
      by_cases e : i = n
      · subst e; exact .inl h
      · exact .inr ⟨i, by omega, h⟩
theorem dnL_new {f : Nat → ByteArray} {k n : Nat} (h : n < k) : ∀ e ∈ dnL f k n, (e.1, e.2.1) ≠ dt9 (k - 1 - n) := by
  intro e he
  obtain ⟨i, hi, rfl⟩ := mem_dnL.1 he
  intro h'
  have := dt9_inj (show dt9 (k - 1 - i) = dt9 (k - 1 - n) from h')
  omega
theorem dnL_pw (f : Nat → ByteArray) (k : Nat) : ∀ n, n ≤ k → (dnL f k n).Pairwise rE
  | 0, _ => List.Pairwise.nil
  | n + 1, h => put_pw (dnL_pw f k n (by omega)) (dnL_new (by omega))
/-- Puts in either row leave one set. -/
theorem rows_one (f : Nat → ByteArray) (k : Nat) : dnL f k k = addL f k :=
  rE_unique (dnL_pw f k k (Nat.le_refl _)) (addL_pw f k) fun x => by
    rw [mem_dnL, mem_addL]
    constructor
    · rintro ⟨i, hi, h⟩; exact ⟨k - 1 - i, by omega, h⟩
    · rintro ⟨i, hi, rfl⟩; exact ⟨k - 1 - i, by omega, by rw [show k - 1 - (k - 1 - i) = i by omega]⟩
/-- What is dropped, told by a mark on each put. -/
def goneL (g : Nat → Bool) (n : Nat) : List Dt := ((List.range n).filter g).map dt9
theorem goneL_succ (g : Nat → Bool) (n : Nat) : goneL g (n + 1) = goneL g n ++ if g n then [dt9 n] else [] := by
  unfold goneL
  rw [List.range_succ, List.filter_append, List.map_append]
  congr 1
  by_cases h : g n = true <;> simp [h]
theorem mem_goneL {g : Nat → Bool} {n i : Nat} : dt9 i ∈ goneL g n ↔ i < n ∧ g i = true := by
  unfold goneL
  rw [List.mem_map]
  constructor
  · rintro ⟨j, hj, h⟩
    obtain rfl := dt9_inj h
    obtain ⟨h1, h2⟩ := List.mem_filter.1 hj
    exact ⟨List.mem_range.1 h1, h2⟩
  · rintro ⟨h1, h2⟩
    exact ⟨i, List.mem_filter.2 ⟨List.mem_range.2 h1, h2⟩, rfl⟩
theorem goneL_le (g : Nat → Bool) (n : Nat) : (goneL g n).length ≤ n := by
  unfold goneL
  rw [List.length_map]
  exact Nat.le_trans (List.length_filter_le _ _) (Nat.le_of_eq List.length_range)
theorem left_len (f : Nat → ByteArray) (g : Nat → Bool) (k : Nat) : (dropped (addL f k) (goneL g k)).length + (goneL g k).length = k := by
  have key : ∀ n, n ≤ k → ((addL f n).filter fun e => decide ((e.1, e.2.1) ∉ goneL g k)).length + (goneL g n).length = n := by
    intro n
    induction n with
    | zero => intro _; rfl
    | succ n ih =>
      intro h
      rw [addL, count_putEn, goneL_succ, List.length_append]
      have := ih (by omega)
      have hm : ((dt9 n).1, (dt9 n).2) ∈ goneL g k ↔ g n = true := by
        rw [show ((dt9 n).1, (dt9 n).2) = dt9 n from rfl, mem_goneL]
        exact ⟨fun h => h.2, fun h' => ⟨by omega, h'⟩⟩
      by_cases hg : g n = true
      · have h1 : decide (((dt9 n).1, (dt9 n).2) ∉ goneL g k) = false := decide_eq_false fun h => h (hm.2 hg)
        simp only [h1, Bool.false_eq_true, if_false, if_pos hg, List.length_singleton]; omega
      · have h1 : decide (((dt9 n).1, (dt9 n).2) ∉ goneL g k) = true := decide_eq_true fun h => hg (hm.1 h)
        simp only [h1, if_true, if_neg hg, List.length_nil]; omega
  exact key k (Nat.le_refl _)
theorem mem_left {f : Nat → ByteArray} {g : Nat → Bool} {k : Nat} {x : ByteArray} : (∃ e ∈ dropped (addL f k) (goneL g k), e.2.2 = x) ↔ ∃ i, i < k ∧ g i = false ∧ f i = x := by
  unfold dropped
  constructor
  · rintro ⟨e, he, rfl⟩
    obtain ⟨h1, h2⟩ := List.mem_filter.1 he
    obtain ⟨i, hi, rfl⟩ := mem_addL.1 h1
    have h3 : dt9 i ∉ goneL g k := of_decide_eq_true h2
    refine ⟨i, hi, ?_, rfl⟩
    cases hg : g i with
    | false => rfl
    | true => exact absurd (mem_goneL.2 ⟨hi, hg⟩) h3
  · rintro ⟨i, hi, hg, rfl⟩
    refine ⟨((dt9 i).1, (dt9 i).2, f i), List.mem_filter.2 ⟨mem_addL.2 ⟨i, hi, rfl⟩, decide_eq_true ?_⟩, rfl⟩
    intro h
    have := (mem_goneL (n := k) (i := i)).1 h
    rw [hg] at this
    cases this.2
end Go.Proofs.YtofikfkgiblblaaGreatDoor

/- Layer 12, the plain law of CellKeeps: what Apply leaves may be, and can be told. No program in sight. -/
namespace Go.Proofs.YtofikfkgiblblaaGreatDoor
set_option linter.unusedVariables false
set_option linter.unusedSimpArgs false
open Go.RowKit Go.Lib Go.Tt Go.Shelf
theorem bump_len (l : List Int) (d : Dt) : (bump l d).length = l.length := by simp [bump]
theorem bump_at (l : List Int) (d : Dt) {i : Nat} (h : i < l.length) : (bump l d).getD i 0 = if i = d.1.toNat then max (l.getD i 0) d.2 else l.getD i 0 := by
  unfold bump
  by_cases hi : i = d.1.toNat
  · subst hi; rw [if_pos rfl]; simp [List.getD, h]
  · rw [if_neg hi]; simp [List.getD, List.getElem?_set_ne (Ne.symm hi)]
theorem bump_le (l : List Int) (d : Dt) (i : Nat) : l.getD i 0 ≤ (bump l d).getD i 0 := by
  by_cases h : i < l.length
  · rw [bump_at l d h]; split <;> omega
  · have e : (bump l d).getD i 0 = 0 := by simp [List.getD, List.getElem?_eq_none (by rw [bump_len]; omega : (bump l d).length ≤ i)]
    have e' : l.getD i 0 = 0 := by simp [List.getD, List.getElem?_eq_none (by omega : l.length ≤ i)]
    omega
theorem vHas_bump {l : List Int} (d : Dt) {e : Dt} (h : vHas l e = true) : vHas (bump l d) e = true := by
  have h := of_decide_eq_true h
  exact decide_eq_true ⟨h.1, by rw [bump_len]; exact h.2.1, h.2.2.1, Int.le_trans h.2.2.2 (bump_le l d _)⟩
theorem vHas_self {l : List Int} {d : Dt} {n : Int} (hd : dotMayN d n = true) (hl : (l.length : Int) = n) : vHas (bump l d) d = true := by
  have h := of_decide_eq_true hd
  refine decide_eq_true ⟨h.2.1, by rw [bump_len]; omega, h.2.2.2.1, ?_⟩
  rw [bump_at l d (by omega), if_pos rfl]; omega
theorem getD_mem {l : List Int} {i : Nat} (h : i < l.length) : l.getD i 0 ∈ l := by
  have : l.getD i 0 = l[i] := by simp [List.getD, h]
  rw [this]; exact List.getElem_mem h
theorem vecMay_bump {l : List Int} {d : Dt} {n : Int} (h : vecMay l n = true) (hd : dotMayN d n = true) : vecMay (bump l d) n = true := by
  have h := of_decide_eq_true h
  have hd := of_decide_eq_true hd
  refine decide_eq_true ⟨h.1, by rw [bump_len]; exact h.2.1, fun x hx => ?_⟩
  rcases List.mem_or_eq_of_mem_set hx with hx | rfl
  · exact h.2.2 x hx
  · have := h.2.2 _ (getD_mem (l := l) (i := d.1.toNat) (by omega))
    omega
theorem ents_iff {c : CellV} : entsMay c = true ↔ (∀ e ∈ c.ents, vHas c.seen (eDot e) = true ∧ e.2.2.size ≤ 256) ∧ c.ents.Pairwise rE := by
  have hg : ∀ j (hj : j < c.ents.length), c.ents.getD j En0 = c.ents[j] := fun j hj => by simp [List.getD, hj]
  constructor
  · intro h
    have h : entsRow c c.ents.length := of_decide_eq_true h
    refine ⟨fun e he => ?_, List.pairwise_iff_getElem.2 fun i j hi hj hij => ?_⟩
    · obtain ⟨i, hi, rfl⟩ := List.getElem_of_mem he
      have h1 := h i hi
      rw [hg i hi] at h1
      exact ⟨h1.1, h1.2.1⟩
    · induction j with
      | zero => omega
      | succ j ih =>
        have h1 := (h (j + 1) hj).2.2 (by omega)
        rw [Nat.add_sub_cancel, hg (j + 1) hj, hg j (by omega)] at h1
        by_cases e : i = j
        · subst e; exact h1
        · exact dl_trans (ih (by omega) (by omega)) h1
  · rintro ⟨h1, h2⟩
    refine decide_eq_true fun j hj => ?_
    have h3 := h1 _ (List.getElem_mem hj)
    rw [hg j hj]
    refine ⟨h3.1, h3.2, fun h0 => ?_⟩
    rw [hg (j - 1) (by omega)]
    exact List.pairwise_iff_getElem.1 h2 (j - 1) j (by omega) hj (by omega)
theorem els_iff {c : CellV} : elsMay c = true ↔ (∀ e ∈ c.elems, vHas c.seen (elDot e) = true ∧ timeMay e.2.2.1 = true ∧ e.2.2.2.1.size ≤ 256 ∧ (e.2.2.2.2 = true → e.2.2.2.1.size = 0)) ∧ (c.elems.map elDot).Nodup := by
  have hg : ∀ j (hj : j < c.elems.length), c.elems.getD j El0 = c.elems[j] := fun j hj => by simp [List.getD, hj]
  constructor
  · intro h
    have h : elsRow c c.elems.length := of_decide_eq_true h
    refine ⟨fun e he => ?_, List.pairwise_iff_getElem.2 fun i j hi hj hij => ?_⟩
    · obtain ⟨i, hi, rfl⟩ := List.getElem_of_mem he
      have h1 := (h i hi).2
      rw [hg i hi] at h1
      exact h1
    · rw [List.length_map] at hi hj
      have h1 := (h j hj).1
      rw [hg j hj] at h1
      intro e
      rw [List.getElem_map, List.getElem_map] at e
      refine h1 (List.mem_map.2 ⟨c.elems[i], ?_, e⟩)
      exact List.mem_take_iff_getElem.2 ⟨i, by omega, rfl⟩
  · rintro ⟨h1, h2⟩
    refine decide_eq_true fun j hj => ?_
    have h3 := h1 _ (List.getElem_mem hj)
    rw [hg j hj]
    refine ⟨fun h => ?_, h3⟩
    obtain ⟨x, hx, e⟩ := List.mem_map.1 h
    obtain ⟨i, hi, rfl⟩ := List.mem_take_iff_getElem.1 hx
    refine List.pairwise_iff_getElem.1 h2 i j (by rw [List.length_map]; omega) (by rw [List.length_map]; exact hj) (by omega) ?_
    rw [List.getElem_map, List.getElem_map]
    exact e
theorem nodup_lt : ∀ (N : Nat) (l : List Nat), l.Nodup → (∀ x ∈ l, x < N) → l.length ≤ N
  | 0, l, _, h => by
    cases l with
    | nil => exact Nat.le_refl _
    | cons a l => exact absurd (h a List.mem_cons_self) (Nat.not_lt_zero _)
  | N + 1, l, hn, h => by
    have h1 := nodup_lt N (l.erase N) (hn.erase N) (fun x hx => by
      have hx := (List.Nodup.mem_erase_iff hn).1 hx
      have := h x hx.2
      have := hx.1
      omega)
    have h2 := List.length_erase (a := N) (l := l)
    split at h2 <;> omega
def codeD (d : Dt) : Nat := (d.1 * 1048576 + d.2).toNat
theorem nodup_box {s : List Int} {n : Int} (hv : vecMay s n = true) {l : List Dt} (hl : l.Nodup) (h : ∀ d ∈ l, vHas s d = true) : l.length ≤ 16777216 := by
  have hv := of_decide_eq_true hv
  have hb : ∀ d ∈ l, 0 ≤ d.1 ∧ d.1 < 16 ∧ 1 ≤ d.2 ∧ d.2 ≤ 1048575 := fun d hd => by
    have h1 := of_decide_eq_true (h d hd)
    have := hv.2.2 _ (getD_mem (l := s) (i := d.1.toNat) (by omega))
    omega
  have := nodup_lt 16777216 (l.map codeD) (by
    refine List.pairwise_map.2 (List.Pairwise.imp_of_mem (fun {a b} ha hb' hne e => hne ?_) hl)
    have h1 := hb a ha
    have h2 := hb b hb'
    unfold codeD at e
    exact Prod.ext (by omega) (by omega)) (fun x hx => by
    obtain ⟨d, hd, rfl⟩ := List.mem_map.1 hx
    have h1 := hb d hd
    unfold codeD
    omega)
  rwa [List.length_map] at this
theorem pw_nodup {l : List En} (h : l.Pairwise rE) : (l.map eDot).Nodup :=
  List.pairwise_map.2 (h.imp fun {a b} hab (e : eDot a = eDot b) => dl_irrefl (eDot b) (by have hab : dotLess (eDot a) (eDot b) = true := hab; rw [e] at hab; exact hab))
theorem wgt_le : ∀ {l : List ByteArray}, (∀ x ∈ l, x.size ≤ 256) → wgt l ≤ 1539 * l.length
  | [], _ => Nat.le_refl _
  | s :: l, h => by
    have h1 := h s List.mem_cons_self
    have h2 := wgt_le (l := l) fun x hx => h x (List.mem_cons_of_mem _ hx)
    unfold wgt; rw [List.length_cons]; omega
theorem may_parts {c : CellV} {n : Int} (h : cellMay c n = true) : vecMay c.seen n = true ∧ bareC c = true ∧ (if c.kind = 0 then setMay c n else if c.kind = 1 then pairMay c.num else if c.kind = 2 then entsMay c else if c.kind = 3 then elsMay c else false) = true := by
  unfold cellMay at h
  simp only [Bool.and_eq_true] at h
  exact ⟨h.1, h.2.1, h.2.2⟩
theorem may_kind {c : CellV} {n : Int} (h : cellMay c n = true) : c.kind = 0 ∨ c.kind = 1 ∨ c.kind = 2 ∨ c.kind = 3 := by
  have h := (may_parts h).2.2
  by_cases h0 : c.kind = 0
  · exact .inl h0
  · rw [if_neg h0] at h
    by_cases h1 : c.kind = 1
    · exact .inr (.inl h1)
    · rw [if_neg h1] at h
      by_cases h2 : c.kind = 2
      · exact .inr (.inr (.inl h2))
      · rw [if_neg h2] at h
        by_cases h3 : c.kind = 3
        · exact .inr (.inr (.inr h3))
        · rw [if_neg h3] at h; cases h
theorem may_ents {c : CellV} {n : Int} (h : cellMay c n = true) : c.ents.length ≤ 16777216 ∧ ∀ e ∈ c.ents, e.2.2.size ≤ 256 := by
  obtain ⟨hv, hb, hk⟩ := may_parts h
  have hb := of_decide_eq_true hb
  by_cases h2 : c.kind = 2
  · rw [if_neg (by omega), if_neg (by omega), if_pos h2] at hk
    obtain ⟨a, b⟩ := ents_iff.1 hk
    have := nodup_box hv (pw_nodup b) (fun d hd => by obtain ⟨e, he, rfl⟩ := List.mem_map.1 hd; exact (a e he).1)
    rw [List.length_map] at this
    exact ⟨this, fun e he => (a e he).2⟩
  · have h0 : c.ents = [] := List.eq_nil_of_length_eq_zero (hb.2.2.1.resolve_left h2)
    rw [h0]
    exact ⟨Nat.zero_le _, fun e he => by cases he⟩
theorem may_els {c : CellV} {n : Int} (h : cellMay c n = true) : c.elems.length ≤ 16777216 ∧ ∀ e ∈ c.elems, e.2.2.2.1.size ≤ 256 := by
  obtain ⟨hv, hb, hk⟩ := may_parts h
  have hb := of_decide_eq_true hb
  by_cases h2 : c.kind = 3
  · rw [if_neg (by omega), if_neg (by omega), if_neg (by omega), if_pos h2] at hk
    obtain ⟨a, b⟩ := els_iff.1 hk
    have := nodup_box hv b (fun d hd => by obtain ⟨e, he, rfl⟩ := List.mem_map.1 hd; exact (a e he).1)
    rw [List.length_map] at this
    exact ⟨this, fun e he => (a e he).2.2.1⟩
  · have h0 : c.elems = [] := List.eq_nil_of_length_eq_zero (hb.2.2.2.resolve_left h2)
    rw [h0]
    exact ⟨Nat.zero_le _, fun e he => by cases he⟩
theorem may_value {c : CellV} {n : Int} (h : cellMay c n = true) : c.value.size ≤ 256 := by
  obtain ⟨hv, hb, hk⟩ := may_parts h
  have hb := of_decide_eq_true hb
  by_cases h2 : c.kind = 0
  · rw [if_pos h2] at hk
    unfold setMay at hk
    split at hk
    · have := of_decide_eq_true hk; omega
    · have := of_decide_eq_true hk; omega
  · have := hb.1.resolve_left h2
    unfold unsetC at this
    omega
theorem may_z {c : CellV} {n : Int} (h : cellMay c n = true) : CellZ c :=
  ⟨by have := may_value h; omega, fun x hx => by have := (may_ents h).2 x hx; omega, fun x hx => by have := (may_els h).2 x hx; omega⟩
theorem may_b {c : CellV} {n : Int} (h : cellMay c n = true) : CellB c := by
  have h1 := (may_ents h).1
  have h2 := (may_els h).1
  have h3 := of_decide_eq_true (may_parts h).1
  exact ⟨by unfold reachBytes; omega, by unfold reachBytes; omega, by unfold reachBytes; omega⟩
theorem may_told {c : CellV} {n : Int} (h : cellMay c n = true) : Told c := by
  have h1 := may_ents h
  have h2 := may_els h
  refine ⟨fun _ => by have := may_value h; omega, fun _ => ?_, fun _ => ?_⟩
  · have hl : (valsOf c.ents).length ≤ c.ents.length := by
      unfold valsOf
      have := Lib.compact_length_le (sortB (c.ents.map fun e => e.2.2))
      rw [sortB_len, List.length_map] at this
      exact this
    have hw := wgt_le (l := valsOf c.ents) fun x hx => by
      obtain ⟨e, he, rfl⟩ := mem_valsOf.1 hx
      exact h1.2 e he
    omega
  · have hl : (valsL c.elems).length ≤ c.elems.length := by
      unfold valsL mapV
      rw [List.length_map]
      exact List.length_filter_le _ _
    have hw := wgt_le (l := valsL c.elems) fun x hx => by
      obtain ⟨e, he, rfl⟩ := List.mem_map.1 hx
      exact h2.2 e (List.mem_filter.1 he).1
    omega
end Go.Proofs.YtofikfkgiblblaaGreatDoor

/- Layer 12, the plain law of CellKeeps, second part: what Apply leaves. No program in sight. -/
namespace Go.Proofs.YtofikfkgiblblaaGreatDoor
set_option linter.unusedVariables false
set_option linter.unusedSimpArgs false
open Go.RowKit Go.Lib Go.Tt Go.Shelf
theorem may_of {c : CellV} {n : Int} (hv : vecMay c.seen n = true) (hb : bareC c = true) (hk : c.kind = 0 ∧ setMay c n = true ∨ c.kind = 1 ∧ pairMay c.num = true ∨ c.kind = 2 ∧ entsMay c = true ∨ c.kind = 3 ∧ elsMay c = true) : cellMay c n = true := by
  unfold cellMay
  rw [hv, hb, Bool.true_and, Bool.true_and]
  rcases hk with ⟨h, h'⟩ | ⟨h, h'⟩ | ⟨h, h'⟩ | ⟨h, h'⟩
  · rw [if_pos h, h']
  · rw [if_neg (by omega), if_pos h, h']
  · rw [if_neg (by omega), if_neg (by omega), if_pos h, h']
  · rw [if_neg (by omega), if_neg (by omega), if_neg (by omega), if_pos h, h']
theorem find_neg {l : List El} {d : Dt} (h : ¬ 0 ≤ findEl l d) : ∀ e ∈ l, elDot e ≠ d := by
  have h1 := idxFL_nonneg l (fun e => decide ((e.1, e.2.1) = d))
  have h2 : decide (0 ≤ idxFL l (fun e => decide ((e.1, e.2.1) = d))) = false := decide_eq_false h
  rw [h2] at h1
  intro e he hd
  have h3 : l.any (fun e => decide ((e.1, e.2.1) = d)) = true := List.any_eq_true.2 ⟨e, he, decide_eq_true hd⟩
  rw [h3] at h1
  cases h1
theorem eff0 {c : CellV} {o : OpV} {n : Int} (hm : cellMay c n = true) (hd : dotMayN o.dot n = true) (ht : timeMay o.time = true) (hz : o.value.size ≤ 256) (hk : c.kind = 0) :
    cellMay { (setF c (o.time, o.dot.1) o.value).1 with seen := bump c.seen o.dot } n = true ∧ (setF c (o.time, o.dot.1) o.value).1.kind = c.kind := by
  obtain ⟨hv, hb, hs⟩ := may_parts hm
  have hb := of_decide_eq_true hb
  rw [if_pos hk] at hs
  unfold setF
  split
  · refine ⟨may_of (vecMay_bump hv hd) (decide_eq_true ⟨.inl hk, hb.2⟩) (.inl ⟨hk, ?_⟩), rfl⟩
    have hd := of_decide_eq_true hd
    have ht := of_decide_eq_true ht
    unfold setMay
    rw [if_neg (by intro h; exact absurd h (by show ¬ (true = false); decide))]
    exact decide_eq_true ⟨ht, hd.2.1, hd.2.2.1, hz⟩
  · exact ⟨may_of (vecMay_bump hv hd) (decide_eq_true ⟨.inl hk, hb.2⟩) (.inl ⟨hk, hs⟩), rfl⟩
theorem eff1 {c : CellV} {o : OpV} {n : Int} (hm : cellMay c n = true) (hd : dotMayN o.dot n = true) (hk : c.kind = 1) (he : (addF c o.num).2 = 0) :
    cellMay { (addF c o.num).1 with seen := bump c.seen o.dot } n = true ∧ (addF c o.num).1.kind = c.kind := by
  obtain ⟨hv, hb, -⟩ := may_parts hm
  have hb := of_decide_eq_true hb
  unfold addF at he ⊢
  split at he
  · next h =>
    rw [if_pos h]
    refine ⟨may_of (vecMay_bump hv hd) (decide_eq_true ⟨hb.1, .inl hk, hb.2.2⟩) (.inr (.inl ⟨hk, ?_⟩)), rfl⟩
    show pairMay (addPair c.num o.num).1 = true
    unfold addPair at h ⊢
    split at h
    · next h1 => rw [if_pos h1]; exact h1.2.2
    · cases h
  · cases he
theorem eff2 {c : CellV} {o : OpV} {n : Int} (hm : cellMay c n = true) (hd : dotMayN o.dot n = true) (hz : o.value.size ≤ 256) (hk : c.kind = 2) (he : (putF c o.dot o.value).2 = 0) :
    cellMay { (putF c o.dot o.value).1 with seen := bump c.seen o.dot } n = true ∧ (putF c o.dot o.value).1.kind = c.kind := by
  obtain ⟨hv, hb, hs⟩ := may_parts hm
  have hb := of_decide_eq_true hb
  rw [if_neg (by omega), if_neg (by omega), if_pos hk] at hs
  obtain ⟨h1, h2⟩ := ents_iff.1 hs
  unfold putF at he ⊢
  split at he
  · cases he
  · next h =>
    rw [if_neg h]
    refine ⟨may_of (vecMay_bump hv hd) (decide_eq_true ⟨hb.1, hb.2.1, .inl hk, hb.2.2.2⟩) (.inr (.inr (.inl ⟨hk, ents_iff.2 ⟨fun e hx => ?_, ?_⟩⟩))), rfl⟩
    · rcases mem_putEn.1 hx with rfl | hx
      · exact ⟨vHas_self hd (of_decide_eq_true hv).2.1, hz⟩
      · exact ⟨vHas_bump _ (h1 e hx).1, (h1 e hx).2⟩
    · exact put_pw h2 fun e hx hq => h (List.any_eq_true.2 ⟨e, hx, decide_eq_true hq⟩)
theorem eff3 {c : CellV} {o : OpV} {n : Int} (hm : cellMay c n = true) (hd : dotMayN o.dot n = true) (hk : c.kind = 2) :
    cellMay { (dropF c o.dots).1 with seen := bump c.seen o.dot } n = true ∧ (dropF c o.dots).1.kind = c.kind := by
  obtain ⟨hv, hb, hs⟩ := may_parts hm
  have hb := of_decide_eq_true hb
  rw [if_neg (by omega), if_neg (by omega), if_pos hk] at hs
  obtain ⟨h1, h2⟩ := ents_iff.1 hs
  refine ⟨may_of (vecMay_bump hv hd) (decide_eq_true ⟨hb.1, hb.2.1, .inl hk, hb.2.2.2⟩) (.inr (.inr (.inl ⟨hk, ents_iff.2 ⟨fun e hx => ?_, ?_⟩⟩))), rfl⟩
  · have hx := (List.mem_filter.1 hx).1
    exact ⟨vHas_bump _ (h1 e hx).1, (h1 e hx).2⟩
  · exact List.Pairwise.sublist List.filter_sublist h2
theorem eff4 {c : CellV} {o : OpV} {n : Int} (hm : cellMay c n = true) (hd : dotMayN o.dot n = true) (ht : timeMay o.time = true) (hz : o.value.size ≤ 256) (hk : c.kind = 3) (he : (insF c (elOf o) o.ref).2 = 0) :
    cellMay { (insF c (elOf o) o.ref).1 with seen := bump c.seen o.dot } n = true ∧ (insF c (elOf o) o.ref).1.kind = c.kind := by
  obtain ⟨hv, hb, hs⟩ := may_parts hm
  have hb := of_decide_eq_true hb
  rw [if_neg (by omega), if_neg (by omega), if_neg (by omega), if_pos hk] at hs
  obtain ⟨h1, h2⟩ := els_iff.1 hs
  unfold insF at he ⊢
  split at he
  · cases he
  · next h =>
    rw [if_neg h]
    cases hp : placeOf c.elems (stOf (elOf o)) o.ref with
    | none => rw [hp] at he; cases he
    | some k =>
      have hmem : ∀ e ∈ c.elems.take k ++ elOf o :: c.elems.drop k, e = elOf o ∨ e ∈ c.elems := fun e hx => by
        rcases List.mem_append.1 hx with hx | hx
        · exact .inr (List.mem_of_mem_take hx)
        · rcases List.mem_cons.1 hx with hx | hx
          · exact .inl hx
          · exact .inr (List.mem_of_mem_drop hx)
      refine ⟨may_of (vecMay_bump hv hd) (decide_eq_true ⟨hb.1, hb.2.1, hb.2.2.1, .inl hk⟩) (.inr (.inr (.inr ⟨hk, els_iff.2 ⟨fun e hx => ?_, ?_⟩⟩))), rfl⟩
      · rcases hmem e hx with rfl | hx
        · exact ⟨vHas_self hd (of_decide_eq_true hv).2.1, ht, hz, fun h => by cases h⟩
        · exact ⟨vHas_bump _ (h1 e hx).1, (h1 e hx).2⟩
      · show ((c.elems.take k ++ elOf o :: c.elems.drop k).map elDot).Nodup
        have hp2 : (c.elems.take k ++ elOf o :: c.elems.drop k).Perm (elOf o :: c.elems) := by
          have := List.perm_middle (a := elOf o) (l₁ := c.elems.take k) (l₂ := c.elems.drop k)
          rwa [List.take_append_drop] at this
        refine (hp2.map elDot).nodup_iff.2 (List.nodup_cons.2 ⟨fun hx => ?_, h2⟩)
        obtain ⟨e, hx, hq⟩ := List.mem_map.1 hx
        exact find_neg h e hx hq
theorem eff5 {c : CellV} {o : OpV} {n : Int} (hm : cellMay c n = true) (hd : dotMayN o.dot n = true) (hk : c.kind = 3) (he : (eraF c o.ref).2 = 0) :
    cellMay { (eraF c o.ref).1 with seen := bump c.seen o.dot } n = true ∧ (eraF c o.ref).1.kind = c.kind := by
  obtain ⟨hv, hb, hs⟩ := may_parts hm
  have hb := of_decide_eq_true hb
  rw [if_neg (by omega), if_neg (by omega), if_neg (by omega), if_pos hk] at hs
  obtain ⟨h1, h2⟩ := els_iff.1 hs
  unfold eraF at he ⊢
  split at he
  · cases he
  · next h =>
    rw [if_neg h]
    have hlt : (findEl c.elems o.ref).toNat < c.elems.length := by have := (findEl_lt c.elems o.ref).2; omega
    have hx : c.elems.getD (findEl c.elems o.ref).toNat (0, 0, 0, ⟨#[]⟩, false) = c.elems[(findEl c.elems o.ref).toNat] := by simp [List.getD, hlt]
    have h3 := h1 _ (List.getElem_mem hlt)
    refine ⟨may_of (vecMay_bump hv hd) (decide_eq_true ⟨hb.1, hb.2.1, hb.2.2.1, .inl hk⟩) (.inr (.inr (.inr ⟨hk, els_iff.2 ⟨fun e hq => ?_, ?_⟩⟩))), rfl⟩
    · rcases List.mem_or_eq_of_mem_set hq with hq | rfl
      · exact ⟨vHas_bump _ (h1 e hq).1, (h1 e hq).2⟩
      · rw [hx]
        exact ⟨vHas_bump _ h3.1, h3.2.1, Nat.zero_le _, fun _ => rfl⟩
    · show ((setGone c.elems (findEl c.elems o.ref).toNat).map elDot).Nodup
      have e : (setGone c.elems (findEl c.elems o.ref).toNat).map elDot = c.elems.map elDot := by
        unfold setGone
        rw [hx, List.map_set]
        apply List.ext_getElem (by simp)
        intro i hi hi'
        rw [List.getElem_set]
        split
        · next q => subst q; rw [List.getElem_map]; rfl
        · rfl
      rw [e]; exact h2
/-- What Apply leaves, where it does not refuse. -/
theorem keep_ok {c : CellV} {o : OpV} {n : Int} (h : (applyF c o n).2 = 0) : cellMay (applyF c o n).1 n = true ∧ (applyF c o n).1.kind = c.kind ∧ (applyF c o n).1.seen = bump c.seen o.dot ∧ 0 ≤ o.dot.1 ∧ o.dot.1 < c.seen.length := by
  unfold applyF at h ⊢
  split at h
  · cases h
  · next h1 =>
    rw [if_neg h1]
    split at h
    · cases h
    · next h2 =>
      rw [if_neg h2]
      split at h
      · next h3 => exact absurd h h3
      · next h3 =>
        rw [if_neg h3]
        have h3 := Decidable.not_not.1 h3
        have h2 := Decidable.not_not.1 h2
        have h1 := (Bool.not_eq_false _).mp h1
        rw [Bool.and_eq_true] at h1
        obtain ⟨hm, ho⟩ := h1
        obtain ⟨hd, ht, -, how⟩ := opMay_facts ho
        obtain ⟨hk, hz⟩ := ownMay_kind how
        have hs := effF_seen h3
        have hD := of_decide_eq_true hd
        have hV := of_decide_eq_true (may_parts hm).1
        have key : cellMay { (effF c o).1 with seen := bump c.seen o.dot } n = true ∧ (effF c o).1.kind = c.kind := by
          unfold effF at h3 ⊢
          unfold kindOf at h2
          by_cases k0 : o.kind = 0
          · rw [if_pos k0] at h2 ⊢
            exact eff0 hm hd ht (hz (.inl k0)) h2.symm
          · rw [if_neg k0] at h2 h3 ⊢
            by_cases k1 : o.kind = 1
            · rw [if_pos k1] at h2 h3 ⊢
              exact eff1 hm hd h2.symm h3
            · rw [if_neg k1] at h2 h3 ⊢
              by_cases k2 : o.kind = 2
              · rw [if_pos k2] at h3 ⊢
                rw [if_pos (.inl k2)] at h2
                exact eff2 hm hd (hz (.inr (.inl k2))) h2.symm h3
              · rw [if_neg k2] at h3 ⊢
                by_cases k3 : o.kind = 3
                · rw [if_pos k3] at h3 ⊢
                  rw [if_pos (.inr k3)] at h2
                  exact eff3 hm hd h2.symm
                · rw [if_neg k3] at h3 ⊢
                  rw [if_neg (by omega)] at h2
                  rw [if_pos (by omega)] at h2
                  by_cases k4 : o.kind = 4
                  · rw [if_pos k4] at h3 ⊢
                    exact eff4 hm hd ht (hz (.inr (.inr k4))) h2.symm h3
                  · rw [if_neg k4] at h3 ⊢
                    exact eff5 hm hd h2.symm h3
        rw [hs]
        exact ⟨key.1, key.2, rfl, hD.2.1, by show o.dot.1 < (c.seen.length : Int); omega⟩
/-- A refused one answers nothing. -/
theorem keep_no {c : CellV} {o : OpV} {n : Int} (h : (applyF c o n).2 ≠ 0) : (applyF c o n).1 = zeroC := by
  unfold applyF at h ⊢
  split
  · rfl
  · split
    · rfl
    · split
      · rfl
      · next h1 h2 h3 => rw [if_neg h1, if_neg h2, if_neg h3] at h; exact absurd rfl h
theorem dec_ne (u : Nat) : Lib.decDigits u ≠ [] := by
  rw [Lib.decDigits]
  split
  · intro h; cases h
  · intro h; simp at h
theorem itoa_ne (n : Int) : Lib.itoa n ≠ [] := by
  unfold Lib.itoa
  split
  · intro h; cases h
  · exact dec_ne _
/-- What may be is told, and the text is none but empty. -/
theorem tell_ok {c : CellV} {n : Int} (h : cellMay c n = true) : (readF c).2 = 0 ∧ (readF c).1 ≠ [] := by
  have hk := may_kind h
  obtain ⟨-, -, hs⟩ := may_parts h
  have h0 : ¬ (kindMay c.kind = false ∨ (c.kind = 1 ∧ pairMay c.num = false)) := by
    rintro (h1 | ⟨h1, h2⟩)
    · have := of_decide_eq_false h1; omega
    · rw [if_neg (by omega), if_pos h1] at hs; rw [hs] at h2; cases h2
  unfold readF
  rw [if_neg h0]
  split
  · refine ⟨rfl, ?_⟩
    show (if c.set = false then ([110, 117, 108, 108] : List UInt8) else quoteL c.value.data.toList) ≠ []
    split
    · intro h; cases h
    · intro h; cases h
  · split
    · refine ⟨rfl, ?_⟩
      show numT c.num ≠ []
      unfold numT
      split
      · exact itoa_ne _
      · intro h; cases h
    · split
      · exact ⟨rfl, fun h => by cases h⟩
      · exact ⟨rfl, fun h => by cases h⟩
end Go.Proofs.YtofikfkgiblblaaGreatDoor

/- tattlelaw12.CellKeeps answers true, for every input. -/
namespace Go.Proofs.YtofikfkgiblblaaGreatDoor
set_option linter.unusedVariables false
set_option linter.unusedSimpArgs false
open Go.RowKit Go.Lib Go.Tt Go.Shelf
theorem apply_refuse {w : World} {c : CellV} {ve vl vs : Value} (h : CellR w c ve vl vs) (hb : CellB c) (hz : CellZ c) {o : OpV} {vd vo : Value} (hO : OpR w o vd vo) (hob : OpB o) (n : Int) (hE : (applyF c o n).2 ≠ 0) :
    Calls Tryz.prog 11 #[cval c ve vl vs, opval o vd vo, .int .i64 n] w fun e w' => ∃ E b1 d1 b2 d2 b3 d3, ¬ E = 0 ∧ e = .returned (.tuple #[.agg #[.int .i64 0, .bool false, .int .i64 0, .int .i64 0, .string ⟨#[]⟩, .int .i64 0, .int .i64 0, .slice b1 0 d1, .slice b2 0 d2, .slice b3 0 d3], .int .i64 E]) ∧ CellR w' zeroC (.slice b1 0 d1) (.slice b2 0 d2) (.slice b3 0 d3) ∧ Frm No w w' := by
  have h := apply_ok h hb hz hO hob n
  rw [keep_no hE] at h
  refine h.mono ?_
  rintro e w' ⟨ve, vl, vs, rfl, o, f⟩
  obtain ⟨a1, c1, rfl⟩ := o.e.sh
  obtain ⟨a2, c2, rfl⟩ := o.l.sh
  obtain ⟨a3, c3, rfl⟩ := o.s.sh
  exact ⟨_, a1, c1, a2, c2, a3, c3, hE, rfl, o.rd, f⟩
/-- What Apply leaves. -/
structure Left (c : CellV) (o : OpV) (n : Int) (D : CellV) : Prop where
  may : cellMay D n = true
  kind : D.kind = c.kind
  seen : D.seen = bump c.seen o.dot
theorem apply_left {w : World} {c : CellV} {ve vl vs : Value} (h : CellR w c ve vl vs) (hb : CellB c) (hz : CellZ c) {o : OpV} {vd vo : Value} (hO : OpR w o vd vo) (hob : OpB o) (n : Int) (hE : (applyF c o n).2 = 0) :
    Calls Tryz.prog 11 #[cval c ve vl vs, opval o vd vo, .int .i64 n] w fun e w' => ∃ D a1 c1 a2 c2 a3 c3, Left c o n D ∧ e = .returned (.tuple #[.agg #[.int .i64 D.kind, .bool D.set, .int .i64 D.st.1, .int .i64 D.st.2, .string D.value, .int .i64 D.num.1, .int .i64 D.num.2, .slice a1 D.ents.length c1, .slice a2 D.elems.length c2, .slice a3 c.seen.length c3], .int .i64 0]) ∧ CellR w' D (.slice a1 D.ents.length c1) (.slice a2 D.elems.length c2) (.slice a3 c.seen.length c3) ∧ Frm No w w' := by
  have hk := keep_ok hE
  have h := apply_ok h hb hz hO hob n
  rw [hE] at h
  generalize (applyF c o n).1 = D at h hk
  refine h.mono ?_
  rintro e w' ⟨ve, vl, vs, rfl, ow, f⟩
  obtain ⟨a1, c1, rfl⟩ := ow.e.sh
  obtain ⟨a2, c2, rfl⟩ := ow.l.sh
  obtain ⟨a3, c3, rfl⟩ := ow.s.sh
  have hl : D.seen.length = c.seen.length := by rw [hk.2.2.1, bump_len]
  have r := ow.rd
  unfold cval
  rw [hl] at r ⊢
  exact ⟨D, a1, c1, a2, c2, a3, c3, ⟨hk.1, hk.2.1, hk.2.2.1⟩, rfl, r, f⟩
theorem ba_none {l : List UInt8} (h : l ≠ []) : (⟨l.toArray⟩ : ByteArray).toList.isEmpty = false := by
  rw [ByteArray.toList_eq]
  cases l with
  | nil => exact absurd rfl h
  | cons a l => rfl
theorem read_left {w : World} {D : CellV} {ve vl vs : Value} {n : Int} (hm : cellMay D n = true) (h : CellR w D ve vl vs) (tab : Tab w) :
    Calls Tryz.prog 15 #[cval D ve vl vs] w fun e w' => ∃ T : ByteArray, T.toList.isEmpty = false ∧ e = .returned (.tuple #[.string T, .int .i64 0]) ∧ Frm No w w' :=
  (read_ok h (may_b hm) (may_told hm) tab).mono fun e w' ⟨he, f⟩ => ⟨_, ba_none (tell_ok hm).2, by rw [he, (tell_ok hm).1], f⟩
theorem may_left {w : World} {D : CellV} {ve vl vs : Value} {n : Int} (hm : cellMay D n = true) (h : CellR w D ve vl vs) :
    Calls Tryz.prog 20 #[cval D ve vl vs, .int .i64 n] w fun e w' => e = .returned (.bool true) ∧ Frm No w w' := by
  have h := cellMay_ok h (may_z hm) n
  rw [hm] at h
  exact h
theorem seen_left {c D : CellV} {o : OpV} {n : Int} (h : Left c o n D) {k : Nat} (hk : o.dot.1 = (k : Int)) {i : Nat} (hi : i < c.seen.length) {x : Int} (hx : Hid (x = c.seen[i])) (hd : i < D.seen.length) : D.seen[i] = if i = k then max x o.dot.2 else x := by
  have h1 := bump_at c.seen o.dot hi
  rw [← h.seen, hk, Int.toNat_natCast] at h1
  have e1 : D.seen.getD i 0 = D.seen[i] := by simp [List.getD, hd]
  have e2 : c.seen.getD i 0 = c.seen[i] := by simp [List.getD, hi]
  rw [e1, e2, ← hx.out] at h1
  exact h1
set_option maxHeartbeats 8000000 in
set_option maxRecDepth 100000 in
theorem lkeeps_ok {w0 : World} (tab : Tab w0) {c : CellV} {ve vl vs : Value} (hR : CellR w0 c ve vl vs) (hB : CellB c) (hZ : CellZ c) {o : OpV} {vd vo : Value} (hO : OpR w0 o vd vo) (hob : OpB o) (n : Int) :
    Calls Tryz.prog 4 #[cval c ve vl vs, opval o vd vo, .int .i64 n] w0 fun e w' => e = .returned (.bool true) ∧ Frm No w0 w' := by
  have R0 := hR
  have P0 := hO
  obtain ⟨he, hl, hs⟩ := hR
  obtain ⟨ae, ce, rfl⟩ := he.sh
  obtain ⟨al, cl, rfl⟩ := hl.sh
  obtain ⟨as_, cs, rfl⟩ := hs.sh
  obtain ⟨hd, hds⟩ := hO
  obtain ⟨ad, cd, rfl⟩ := hd.sh
  obtain ⟨ao, co, rfl⟩ := hds.sh
  clear he hl hd hds
  rw [show cval c (.slice ae c.ents.length ce) (.slice al c.elems.length cl) (.slice as_ c.seen.length cs) = .agg #[.int .i64 c.kind, .bool c.set, .int .i64 c.st.1, .int .i64 c.st.2, .string c.value, .int .i64 c.num.1, .int .i64 c.num.2, .slice ae c.ents.length ce, .slice al c.elems.length cl, .slice as_ c.seen.length cs] from rfl, show opval o (.slice ad o.deps.length cd) (.slice ao o.dots.length co) = .agg #[.int .i64 o.dot.1, .int .i64 o.dot.2, .int .i64 o.time, .slice ad o.deps.length cd, .int .i64 o.kind, .string o.type, .string o.id, .string o.field, .string o.value, .int .i64 o.num.1, .int .i64 o.num.2, .int .i64 o.ref.1, .int .i64 o.ref.2, .slice ao o.dots.length co] from rfl]
  have FX : Frm No w0 ((w0.alloc (.cells #[.int .i64 c.kind, .bool c.set, .int .i64 c.st.1, .int .i64 c.st.2, .string c.value, .int .i64 c.num.1, .int .i64 c.num.2, .slice ae c.ents.length ce, .slice al c.elems.length cl, .slice as_ c.seen.length cs] 30 (0, 0))).alloc (.cells #[.int .i64 o.dot.1, .int .i64 o.dot.2, .int .i64 o.time, .slice ad o.deps.length cd, .int .i64 o.kind, .string o.type, .string o.id, .string o.field, .string o.value, .int .i64 o.num.1, .int .i64 o.num.2, .int .i64 o.ref.1, .int .i64 o.ref.2, .slice ao o.dots.length co] 35 (0, 0))) := ((Frm.refl No w0).al _).al _
  have C1 : ((w0.alloc (.cells #[.int .i64 c.kind, .bool c.set, .int .i64 c.st.1, .int .i64 c.st.2, .string c.value, .int .i64 c.num.1, .int .i64 c.num.2, .slice ae c.ents.length ce, .slice al c.elems.length cl, .slice as_ c.seen.length cs] 30 (0, 0))).alloc (.cells #[.int .i64 o.dot.1, .int .i64 o.dot.2, .int .i64 o.time, .slice ad o.deps.length cd, .int .i64 o.kind, .string o.type, .string o.id, .string o.field, .string o.value, .int .i64 o.num.1, .int .i64 o.num.2, .int .i64 o.ref.1, .int .i64 o.ref.2, .slice ao o.dots.length co] 35 (0, 0))).heap[w0.heap.size]? = some (.cells #[.int .i64 c.kind, .bool c.set, .int .i64 c.st.1, .int .i64 c.st.2, .string c.value, .int .i64 c.num.1, .int .i64 c.num.2, .slice ae c.ents.length ce, .slice al c.elems.length cl, .slice as_ c.seen.length cs] 30 (0, 0)) := al_old (heap_alloc_new w0 _)
  have O1 : ((w0.alloc (.cells #[.int .i64 c.kind, .bool c.set, .int .i64 c.st.1, .int .i64 c.st.2, .string c.value, .int .i64 c.num.1, .int .i64 c.num.2, .slice ae c.ents.length ce, .slice al c.elems.length cl, .slice as_ c.seen.length cs] 30 (0, 0))).alloc (.cells #[.int .i64 o.dot.1, .int .i64 o.dot.2, .int .i64 o.time, .slice ad o.deps.length cd, .int .i64 o.kind, .string o.type, .string o.id, .string o.field, .string o.value, .int .i64 o.num.1, .int .i64 o.num.2, .int .i64 o.ref.1, .int .i64 o.ref.2, .slice ao o.dots.length co] 35 (0, 0))).heap[w0.heap.size + 1]? = some (.cells #[.int .i64 o.dot.1, .int .i64 o.dot.2, .int .i64 o.time, .slice ad o.deps.length cd, .int .i64 o.kind, .string o.type, .string o.id, .string o.field, .string o.value, .int .i64 o.num.1, .int .i64 o.num.2, .int .i64 o.ref.1, .int .i64 o.ref.2, .slice ao o.dots.length co] 35 (0, 0)) := al_at (by simp)
  go_enter Tryz.func4, Tryz.ntmps4
  go_wp2_with (fail)
  revert FX C1 O1
  generalize ((w0.alloc (.cells #[.int .i64 c.kind, .bool c.set, .int .i64 c.st.1, .int .i64 c.st.2, .string c.value, .int .i64 c.num.1, .int .i64 c.num.2, .slice ae c.ents.length ce, .slice al c.elems.length cl, .slice as_ c.seen.length cs] 30 (0, 0))).alloc (.cells #[.int .i64 o.dot.1, .int .i64 o.dot.2, .int .i64 o.time, .slice ad o.deps.length cd, .int .i64 o.kind, .string o.type, .string o.id, .string o.field, .string o.value, .int .i64 o.num.1, .int .i64 o.num.2, .int .i64 o.ref.1, .int .i64 o.ref.2, .slice ao o.dots.length co] 35 (0, 0))) = X
  intro FX C1 O1
  refine (awake_ok (tab.frm FX)).mono ?_
  rintro e w1 ⟨rfl, f1⟩
  have F1 := FX.trans f1
  have C2 := f1.obj C1 id
  have O2 := f1.obj O1 id
  clear FX C1 O1 f1
  obtain ⟨q0, q1, q2, q3, q4, q5, q6, q7, q8, q9⟩ := obj10 C2
  obtain ⟨t0, t1, t2, t3, t4, t5, t6, t7, t8, t9, t10, t11, t12, t13⟩ := obj14 O2
  go_wp2_with (fail)
  by_cases hE : (applyF c o n).2 = 0
  case neg =>
    refine (apply_refuse (R0.no F1) hB hZ (P0.no F1) hob n hE).mono ?_
    rintro e w2 ⟨E, b1, d1, b2, d2, b3, d3, hE0, rfl, r2, f2⟩
    have F2 := F1.trans f2
    clear F1 f2 q0 q1 q2 q3 q4 q5 q6 q7 q8 q9 t0 t1 t2 t3 t4 t5 t6 t7 t8 t9 t10 t11 t12 t13 C2 O2 hE
    have G2 := (Frm.refl No w2).al (.cells #[.int .i64 0, .bool false, .int .i64 0, .int .i64 0, .string ⟨#[]⟩, .int .i64 0, .int .i64 0, .slice b1 0 d1, .slice b2 0 d2, .slice b3 0 d3] 30 (0, 0))
    go_wp2_with (go_at_call 18; refine (num_ok _ _).mono ?_; rintro e w' ⟨rfl, rfl⟩)
    refine (sameCell_ok (r2.no G2) (c := zeroC) (ve' := .slice none 0 0) (vl' := .slice none 0 0) (vs' := .slice none 0 0) ⟨RdS.nil _ _, RdS.nil _ _, RdS.nil _ _⟩).mono ?_
    rintro e w3 ⟨rfl, f3⟩
    go_wp2_with (fail)
    go_ret
    exact ⟨rfl, F2.trans (G2.trans f3)⟩
  have hkk := keep_ok hE
  obtain ⟨k, hk⟩ : ∃ k : Nat, Hid (o.dot.1 = (k : Int)) := ⟨o.dot.1.toNat, Lib.hid (by have := hkk.2.2.2.1; omega)⟩
  have hkq : k < c.seen.length := by have := hkk.2.2.2.2; rw [hk.out] at this; omega
  clear hkk
  refine (apply_left (R0.no F1) hB hZ (P0.no F1) hob n hE).mono ?_
  rintro e w2 ⟨D, a1, c1, a2, c2, a3, c3, hL, rfl, r2, f2⟩
  have F2 := F1.trans f2
  have C3 := f2.obj C2 id
  have O3 := f2.obj O2 id
  clear F1 f2 q0 q1 q2 q3 q4 q5 q6 q7 q8 q9 t0 t1 t2 t3 t4 t5 t6 t7 t8 t9 t10 t11 t12 t13 C2 O2 hE
  have lC := lt_of_block C3
  have lO := lt_of_block O3
  replace C3 : (w2.alloc (.cells #[.int .i64 D.kind, .bool D.set, .int .i64 D.st.1, .int .i64 D.st.2, .string D.value, .int .i64 D.num.1, .int .i64 D.num.2, .slice a1 D.ents.length c1, .slice a2 D.elems.length c2, .slice a3 c.seen.length c3] 30 (0, 0))).heap[w0.heap.size]? = some (.cells #[.int .i64 c.kind, .bool c.set, .int .i64 c.st.1, .int .i64 c.st.2, .string c.value, .int .i64 c.num.1, .int .i64 c.num.2, .slice ae c.ents.length ce, .slice al c.elems.length cl, .slice as_ c.seen.length cs] 30 (0, 0)) := al_old C3
  replace O3 : (w2.alloc (.cells #[.int .i64 D.kind, .bool D.set, .int .i64 D.st.1, .int .i64 D.st.2, .string D.value, .int .i64 D.num.1, .int .i64 D.num.2, .slice a1 D.ents.length c1, .slice a2 D.elems.length c2, .slice a3 c.seen.length c3] 30 (0, 0))).heap[w0.heap.size + 1]? = some (.cells #[.int .i64 o.dot.1, .int .i64 o.dot.2, .int .i64 o.time, .slice ad o.deps.length cd, .int .i64 o.kind, .string o.type, .string o.id, .string o.field, .string o.value, .int .i64 o.num.1, .int .i64 o.num.2, .int .i64 o.ref.1, .int .i64 o.ref.2, .slice ao o.dots.length co] 35 (0, 0)) := al_old O3
  have D3 := heap_alloc_new w2 (.cells #[.int .i64 D.kind, .bool D.set, .int .i64 D.st.1, .int .i64 D.st.2, .string D.value, .int .i64 D.num.1, .int .i64 D.num.2, .slice a1 D.ents.length c1, .slice a2 D.elems.length c2, .slice a3 c.seen.length c3] 30 (0, 0))
  have G2 := (Frm.refl No w2).al (.cells #[.int .i64 D.kind, .bool D.set, .int .i64 D.st.1, .int .i64 D.st.2, .string D.value, .int .i64 D.num.1, .int .i64 D.num.2, .slice a1 D.ents.length c1, .slice a2 D.elems.length c2, .slice a3 c.seen.length c3] 30 (0, 0))
  have r3 := r2.no G2
  have F3 := F2.trans G2
  have s3 := hs.no F3
  obtain ⟨q0, q1, q2, q3, q4, q5, q6, q7, q8, q9⟩ := obj10 C3
  obtain ⟨t0, t1, -⟩ := obj14 O3
  obtain ⟨p0, p1, p2, p3, p4, p5, p6, p7, p8, p9⟩ := obj10 D3
  rw [hk.out] at t0
  have hk0 : ¬ ((k : Int) < 0) := by omega
  have hk1 : ¬ ((c.seen.length : Int) ≤ (k : Int)) := by omega
  have HS := Lib.hid hs
  clear hs r2 G2 F2
  have hlD : Hid (D.seen.length = c.seen.length) := Lib.hid (by rw [hL.seen, bump_len])
  obtain ⟨q, hq⟩ : ∃ q, Hid (c.seen.length = q) := ⟨_, Lib.hid rfl⟩
  go_wp2_with (go_at_call 18; refine (num_ok _ _).mono ?_; rintro e w' ⟨rfl, rfl⟩)
  revert F3 C3 O3 D3 r3 s3 q0 q1 q2 q3 q4 q5 q6 q7 q8 q9 t0 t1 p0 p1 p2 p3 p4 p5 p6 p7 p8 p9
  generalize w2.alloc (.cells #[.int .i64 D.kind, .bool D.set, .int .i64 D.st.1, .int .i64 D.st.2, .string D.value, .int .i64 D.num.1, .int .i64 D.num.2, .slice a1 D.ents.length c1, .slice a2 D.elems.length c2, .slice a3 c.seen.length c3] 30 (0, 0)) = Y
  intro C3 O3 D3 r3 F3 s3 q0 q1 q2 q3 q4 q5 q6 q7 q8 q9 t0 t1 p0 p1 p2 p3 p4 p5 p6 p7 p8 p9
  obtain ⟨-, hc1, hc2, -⟩ := s3.facts
  unfold maxLen at hc2
  go_loopg [9] (c.seen.length + 1) (fun g iv wr => ∃ i : Nat, iv = .int .i64 i ∧ wr = Y ∧ i ≤ c.seen.length ∧ g = c.seen.length - i + 1)
  case atStart => exact ⟨0, rfl, rfl, Nat.zero_le _, by omega⟩
  case round =>
    obtain ⟨i, rfl, rfl, hi, hg⟩ := hrel
    have hG := Lib.hid hg
    clear hg
    by_cases hlt : i < c.seen.length
    · have lD : i < D.seen.length := by rw [hlD.out]; exact hlt
      obtain ⟨b, off, rfl, hb, hc⟩ := s3.at hlt
      have e0 : wr.cell? ⟨b, off + i, none⟩ = some (.int .i64 c.seen[i]) := by have := hc 0 _ rfl; rwa [show i * eInt.k + 0 = i from Nat.mul_one i] at this
      obtain ⟨b', off', rfl, hb', hc'⟩ := r3.s.at lD
      have e1 : wr.cell? ⟨b', off' + i, none⟩ = some (.int .i64 D.seen[i]) := by have := hc' 0 _ rfl; rwa [show i * eInt.k + 0 = i from Nat.mul_one i] at this
      obtain ⟨x, hx⟩ : ∃ x, Hid (x = c.seen[i]) := ⟨_, Lib.hid rfl⟩
      rw [seen_left hL hk.out hlt hx lD] at e1
      rw [← hx.out] at e0
      clear hc hc' hb hb' s3 r3 lD C3 O3 D3 R0 P0
      by_cases hij : i = k
      · subst hij
        rw [if_pos rfl] at e1
        go_wp2
        go_roundg (c.seen.length - (i + 1) + 1)
        case measure => have := hG.out; omega
        case rel => exact ⟨i + 1, by go_num, rfl, by omega, rfl⟩
      · rw [if_neg hij] at e1
        have hij' : ¬ ((i : Int) = (k : Int)) := by omega
        go_wp2
        go_roundg (c.seen.length - (i + 1) + 1)
        case measure => have := hG.out; omega
        case rel => exact ⟨i + 1, by go_num, rfl, by omega, rfl⟩
    · have hi' : i = c.seen.length := by omega
      have hI := Lib.hid hi'
      clear hi' hi
      have hlt' : ¬ ((i : Int) < (c.seen.length : Int)) := by omega
      clear hlt s3 hk0 hk1
      go_wp2_with (fail)
      refine (read_left hL.may r3 (tab.frm F3)).mono ?_
      rintro e w4 ⟨T, hT, rfl, f4⟩
      have F4 := F3.trans f4
      have C4 := f4.obj C3 id
      have D4 := f4.obj D3 id
      have r4 := r3.no f4
      clear F3 C3 D3 O3 r3 f4 q0 q1 q2 q3 q4 q5 q6 q7 q8 q9 t0 t1 p0 p1 p2 p3 p4 p5 p6 p7 p8 p9
      obtain ⟨q0, q1, q2, q3, q4, q5, q6, q7, q8, q9⟩ := obj10 C4
      obtain ⟨p0, p1, p2, p3, p4, p5, p6, p7, p8, p9⟩ := obj10 D4
      go_wp2_with (fail)
      refine (may_left hL.may r4).mono ?_
      rintro e w5 ⟨rfl, f5⟩
      have F5 := F4.trans f5
      have C5 := f5.obj C4 id
      have D5 := f5.obj D4 id
      clear F4 C4 D4 r4 f5 q0 q1 q2 q3 q4 q5 q6 q7 q8 q9 p0 p1 p2 p3 p4 p5 p6 p7 p8 p9
      obtain ⟨q0, q1, q2, q3, q4, q5, q6, q7, q8, q9⟩ := obj10 C5
      obtain ⟨p0, p1, p2, p3, p4, p5, p6, p7, p8, p9⟩ := obj10 D5
      rw [← hL.kind] at q0
      go_wp2_with (go_at_call 18; refine (num_ok _ _).mono ?_; rintro e w' ⟨rfl, rfl⟩)
      go_ret
      exact ⟨rfl, F5⟩
end Go.Proofs.YtofikfkgiblblaaGreatDoor

/- What came in, opened step by step, whatever its bounds: a reader. No program in sight. -/
namespace Go.Tt
set_option linter.unusedVariables false
set_option linter.unusedSimpArgs false
open Go.RowKit Go.Lib
section
variable {P : Program} {w : World} {α : Type}
/-- A reader: texts are no longer than M, slices no longer than L. -/
structure Rdr (P : Program) (w : World) (M L : Nat) (R : TypeId → List Value → Prop) : Prop where
  bool : ∀ {t : TypeId} {cs : List Value}, P.underlying t = some .bool → R t cs → ∃ b, cs = [.bool b]
  int : ∀ {t : TypeId} {k : IntKind} {cs : List Value}, P.underlying t = some (.int k) → R t cs → ∃ n, cs = [.int k n] ∧ (Lit.int k n).wf = true
  string : ∀ {t : TypeId} {cs : List Value}, P.underlying t = some .string → R t cs → ∃ s, cs = [.string s] ∧ s.size ≤ M
  struct : ∀ {t : TypeId} {fs : Array Field} {cs : List Value}, P.underlying t = some (.struct fs) → R t cs → cs.length = P.cellsOf t ∧ ∀ f ∈ fs.toList, R f.type ((cs.drop f.offset).take (P.cellsOf f.type))
  slice : ∀ {t e : TypeId} {cs : List Value}, P.underlying t = some (.slice e) → R t cs → cs = [.slice none 0 0] ∨ ∃ a n c, cs = [.slice (some a) n c] ∧ n ≤ c ∧ c ≤ maxLen ∧ c * P.bytesOf e ≤ reachBytes ∧ n ≤ L ∧ ∀ i < n, ∃ xs, w.cells? 0 (a.add (i * P.cellsOf e)) (P.cellsOf e) = some xs ∧ R e xs
theorem rdr_rd : Rdr P w reachBytes maxLen (Rd P w) where
  bool ht h := h.bool ht
  int ht h := h.int ht
  string ht h := h.string ht
  struct ht h := h.struct ht
  slice ht h := by
    rcases h.slice ht with h | ⟨a, n, c, h1, h2, h3, h4, h5⟩
    · exact .inl h
    · exact .inr ⟨a, n, c, h1, h2, h3, h4, Nat.le_trans h2 h3, h5⟩
theorem Rdr.slices {M L : Nat} {R : TypeId → List Value → Prop} (r : Rdr P w M L R) {t e : TypeId} {v : Value} {E : Enc α} (p : α → Prop) (ht : P.underlying t = some (.slice e)) (hk : P.cellsOf e = E.k)
    (hR : ∀ cs, R e cs → ∃ x : α, E.f x = cs ∧ p x) (h : R t [v]) : ∃ l, RdS w E v l ∧ l.length * P.bytesOf e ≤ reachBytes ∧ l.length ≤ L ∧ ∀ x ∈ l, p x := by
  rcases r.slice ht h with hvc | ⟨a, n, c, hvc, hn, hc, hby, hL, hel⟩
  · simp at hvc
    subst hvc
    exact ⟨[], RdS.nil _ _, by simp, Nat.zero_le _, fun x hx => by cases hx⟩
  · simp at hvc
    subst hvc
    rw [hk] at hel
    have hel' : ∀ i : Fin n, ∃ x : α, p x ∧ ∀ j, j < E.k → w.cell? ((a.add (i.1 * E.k)).add j) = some ((E.f x).getD j undef) := fun i => by
      obtain ⟨xs, h1, h2⟩ := hel i.1 i.2
      obtain ⟨x, hx, hp⟩ := hR xs h2
      subst hx
      exact ⟨x, hp, (cells_at h1).2⟩
    let f : Fin n → α := fun i => Classical.choose (hel' i)
    have hf : ∀ i : Fin n, ∀ j, j < E.k → w.cell? ((a.add (i.1 * E.k)).add j) = some ((E.f (f i)).getD j undef) := fun i => (Classical.choose_spec (hel' i)).2
    have hp : ∀ i : Fin n, p (f i) := fun i => (Classical.choose_spec (hel' i)).1
    have hlen : (List.ofFn f).length = n := by simp
    refine ⟨List.ofFn f, ⟨some a, c, by rw [hlen], by omega, hc, (by intro h; cases h), fun hl => ?_⟩, by rw [hlen]; exact Nat.le_trans (Nat.mul_le_mul_right _ hn) hby, by rw [hlen]; exact hL, fun x hx => by
      obtain ⟨i, hi, rfl⟩ := List.getElem_of_mem hx
      rw [List.getElem_ofFn]
      exact hp _⟩
    rw [hlen] at hl
    obtain ⟨b, off, spot⟩ := a
    have hspot : spot = none := by
      have := World.cell?_spot (hf ⟨0, hl⟩ 0 E.pos)
      simpa [Addr.add] using this
    subst hspot
    refine ⟨b, off, rfl, fun m u hu => ?_⟩
    have hm := (List.getElem?_eq_some_iff.1 hu).1
    rw [E.flat_len, hlen] at hm
    have hk0 := E.pos
    have hi : m / E.k < n := (Nat.div_lt_iff_lt_mul hk0).2 hm
    have hj : m % E.k < E.k := Nat.mod_lt _ hk0
    have e : m / E.k * E.k + m % E.k = m := by rw [Nat.mul_comm]; exact Nat.div_add_mod m E.k
    have h1 := hf ⟨m / E.k, hi⟩ (m % E.k) hj
    rw [Addr.add_lit, Addr.add_lit, Nat.add_assoc, e] at h1
    rw [h1]
    rw [← e, E.flat_get (by rw [hlen]; exact hi) hj] at hu
    rw [List.getElem_ofFn] at hu
    simp [List.getD, hu]
theorem Rdr.int1 {M L : Nat} {R : TypeId → List Value → Prop} (r : Rdr P w M L R) {t : TypeId} {x : Value} (ht : P.underlying t = some (.int .i64)) (h : R t [x]) : ∃ n, x = .int .i64 n := by
  obtain ⟨n, h, -⟩ := r.int ht h
  exact ⟨n, by simpa using h⟩
theorem Rdr.str1 {M L : Nat} {R : TypeId → List Value → Prop} (r : Rdr P w M L R) {t : TypeId} {x : Value} (ht : P.underlying t = some .string) (h : R t [x]) : ∃ s, x = .string s ∧ s.size ≤ M := by
  obtain ⟨n, h, hs⟩ := r.string ht h
  exact ⟨n, by simpa using h, hs⟩
theorem Rdr.bool1 {M L : Nat} {R : TypeId → List Value → Prop} (r : Rdr P w M L R) {t : TypeId} {x : Value} (ht : P.underlying t = some .bool) (h : R t [x]) : ∃ b, x = .bool b := by
  obtain ⟨n, h⟩ := r.bool ht h
  exact ⟨n, by simpa using h⟩
end
end Go.Tt

/- A cell, an operation that came in, opened by whatever reader. -/
namespace Go.Proofs.YtofikfkgiblblaaGreatDoor
set_option linter.unusedVariables false
set_option linter.unusedSimpArgs false
open Go.RowKit Go.Lib Go.Tt Go.WideShapes
set_option maxRecDepth 10000
section
variable {w : World} {M L : Nat} {R : TypeId → List Value → Prop}
theorem two_of (r : Rdr Tryz.prog w M L R) {t : TypeId} {cs : List Value} (h : R t cs) (ht : t = 23 ∨ t = 25 ∨ t = 32) : ∃ d : Int × Int, cs = [.int .i64 d.1, .int .i64 d.2] := by
  have key : ∀ {fs : Array Field}, Tryz.prog.underlying t = some (.struct fs) → Tryz.prog.cellsOf t = 2 → (∃ f ∈ fs.toList, f.offset = 0 ∧ f.type = 3) → (∃ f ∈ fs.toList, f.offset = 1 ∧ f.type = 3) → ∃ d : Int × Int, cs = [.int .i64 d.1, .int .i64 d.2] := by
    intro fs hu hc ⟨f, hf, f0, ft⟩ ⟨g, hg, g0, gt⟩
    obtain ⟨hl, hs⟩ := r.struct hu h
    rw [hc] at hl
    match cs, hl with
    | [x, y], _ =>
      have h0 := hs f hf
      have h1 := hs g hg
      rw [f0, ft, c_int] at h0
      rw [g0, gt, c_int] at h1
      obtain ⟨a, rfl⟩ := r.int1 Tryz.underlying3 h0
      obtain ⟨b, rfl⟩ := r.int1 Tryz.underlying3 h1
      exact ⟨(a, b), rfl⟩
  rcases ht with rfl | rfl | rfl
  · exact key Tryz.underlying23 c_stamp ⟨_, List.mem_cons_self, rfl, rfl⟩ ⟨_, List.mem_cons_of_mem _ List.mem_cons_self, rfl, rfl⟩
  · exact key Tryz.underlying25 c_pair ⟨_, List.mem_cons_self, rfl, rfl⟩ ⟨_, List.mem_cons_of_mem _ List.mem_cons_self, rfl, rfl⟩
  · exact key Tryz.underlying32 c_dot ⟨_, List.mem_cons_self, rfl, rfl⟩ ⟨_, List.mem_cons_of_mem _ List.mem_cons_self, rfl, rfl⟩
theorem en_of (r : Rdr Tryz.prog w M L R) {cs : List Value} (h : R 62 cs) : ∃ x : En, eEn.f x = cs ∧ x.2.2.size ≤ M := by
  obtain ⟨hl, hf⟩ := r.struct Tryz.underlying62 h
  rw [c_en] at hl
  match cs, hl with
  | [x, y, z], _ =>
    have h0 := hf _ (List.mem_cons_self)
    have h1 := hf _ (List.mem_cons_of_mem _ List.mem_cons_self)
    simp only [c_dot, c_str] at h0 h1
    obtain ⟨d, hd⟩ := two_of r h0 (.inr (.inr rfl))
    obtain ⟨s, rfl, hs⟩ := r.str1 Tryz.underlying9 h1
    have e : [x, y] = [Value.int .i64 d.1, .int .i64 d.2] := hd
    simp only [List.cons.injEq, and_true] at e
    exact ⟨(d.1, d.2, s), by rw [e.1, e.2]; rfl, hs⟩
theorem el_of (r : Rdr Tryz.prog w M L R) {cs : List Value} (h : R 59 cs) : ∃ x : El, eEl.f x = cs ∧ x.2.2.2.1.size ≤ M := by
  obtain ⟨hl, hf⟩ := r.struct Tryz.underlying59 h
  rw [c_el] at hl
  match cs, hl with
  | [x, y, z, u, t], _ =>
    have h0 := hf _ (List.mem_cons_self)
    have h1 := hf _ (List.mem_cons_of_mem _ List.mem_cons_self)
    have h2 := hf _ (List.mem_cons_of_mem _ (List.mem_cons_of_mem _ List.mem_cons_self))
    have h3 := hf _ (List.mem_cons_of_mem _ (List.mem_cons_of_mem _ (List.mem_cons_of_mem _ List.mem_cons_self)))
    simp only [c_dot, c_int, c_str, c_bool] at h0 h1 h2 h3
    obtain ⟨d, hd⟩ := two_of r h0 (.inr (.inr rfl))
    obtain ⟨n, rfl⟩ := r.int1 Tryz.underlying3 h1
    obtain ⟨s, rfl, hs⟩ := r.str1 Tryz.underlying9 h2
    obtain ⟨b, rfl⟩ := r.bool1 Tryz.underlying4 h3
    have e : [x, y] = [Value.int .i64 d.1, .int .i64 d.2] := hd
    simp only [List.cons.injEq, and_true] at e
    exact ⟨(d.1, d.2, n, s, b), by rw [e.1, e.2]; rfl, hs⟩
theorem dt_of (r : Rdr Tryz.prog w M L R) {cs : List Value} (h : R 32 cs) : ∃ x : Dt, eDt.f x = cs ∧ True := by
  obtain ⟨d, rfl⟩ := two_of r h (.inr (.inr rfl))
  exact ⟨d, rfl, trivial⟩
theorem in_of (r : Rdr Tryz.prog w M L R) {cs : List Value} (h : R 3 cs) : ∃ x : Int, eInt.f x = cs ∧ True := by
  obtain ⟨n, rfl, -⟩ := r.int Tryz.underlying3 h
  exact ⟨n, rfl, trivial⟩
/-- Bounds of a cell that came in. -/
structure CellM (M L : Nat) (c : CellV) : Prop where
  v : c.value.size ≤ M
  e : ∀ x ∈ c.ents, x.2.2.size ≤ M
  l : ∀ x ∈ c.elems, x.2.2.2.1.size ≤ M
  ne : c.ents.length ≤ L
  nl : c.elems.length ≤ L
  ns : c.seen.length ≤ L
theorem CellM.z {c : CellV} (h : CellM M L c) (hM : M ≤ 2 ^ 63 - 1) : CellZ c := ⟨Nat.le_trans h.v hM, fun x hx => Nat.le_trans (h.e x hx) hM, fun x hx => Nat.le_trans (h.l x hx) hM⟩
theorem cellR_of (r : Rdr Tryz.prog w M L R) {cs : List Value} (h : R 30 cs) : ∃ c ve vl vs, cs = (cval c ve vl vs).cells.toList ∧ CellR w c ve vl vs ∧ CellB c ∧ CellM M L c := by
  obtain ⟨hl, hf⟩ := r.struct Tryz.underlying30 h
  rw [c_cell] at hl
  match cs, hl with
  | [x0, x1, x2, x3, x4, x5, x6, x7, x8, x9], _ =>
    have h0 := hf _ List.mem_cons_self
    have h1 := hf _ (List.mem_cons_of_mem _ List.mem_cons_self)
    have h2 := hf _ (List.mem_cons_of_mem _ (List.mem_cons_of_mem _ List.mem_cons_self))
    have h3 := hf _ (List.mem_cons_of_mem _ (List.mem_cons_of_mem _ (List.mem_cons_of_mem _ List.mem_cons_self)))
    have h4 := hf _ (List.mem_cons_of_mem _ (List.mem_cons_of_mem _ (List.mem_cons_of_mem _ (List.mem_cons_of_mem _ List.mem_cons_self))))
    have h5 := hf _ (List.mem_cons_of_mem _ (List.mem_cons_of_mem _ (List.mem_cons_of_mem _ (List.mem_cons_of_mem _ (List.mem_cons_of_mem _ List.mem_cons_self)))))
    have h6 := hf _ (List.mem_cons_of_mem _ (List.mem_cons_of_mem _ (List.mem_cons_of_mem _ (List.mem_cons_of_mem _ (List.mem_cons_of_mem _ (List.mem_cons_of_mem _ List.mem_cons_self))))))
    have h7 := hf _ (List.mem_cons_of_mem _ (List.mem_cons_of_mem _ (List.mem_cons_of_mem _ (List.mem_cons_of_mem _ (List.mem_cons_of_mem _ (List.mem_cons_of_mem _ (List.mem_cons_of_mem _ List.mem_cons_self)))))))
    simp only [c_int, c_bool, c_stamp, c_str, c_pair, c_ens, c_els, c_ints] at h0 h1 h2 h3 h4 h5 h6 h7
    clear hf h
    obtain ⟨k, rfl⟩ := r.int1 Tryz.underlying3 h0
    obtain ⟨b, rfl⟩ := r.bool1 Tryz.underlying4 h1
    obtain ⟨st, hs⟩ := two_of r h2 (.inl rfl)
    obtain ⟨s, rfl, hsz⟩ := r.str1 Tryz.underlying9 h3
    obtain ⟨nm, hn⟩ := two_of r h4 (.inr (.inl rfl))
    have hs' : [x2, x3] = [Value.int .i64 st.1, .int .i64 st.2] := hs
    have hn' : [x5, x6] = [Value.int .i64 nm.1, .int .i64 nm.2] := hn
    simp only [List.cons.injEq, and_true] at hs' hn'
    obtain ⟨rfl, rfl⟩ := hs'
    obtain ⟨rfl, rfl⟩ := hn'
    obtain ⟨E, hE, bE, lE, pE⟩ := r.slices (E := eEn) (fun x => x.2.2.size ≤ M) Tryz.underlying26 c_en (fun _ h => en_of r h) h5
    obtain ⟨Q, hQ, bQ, lQ, pQ⟩ := r.slices (E := eEl) (fun x => x.2.2.2.1.size ≤ M) Tryz.underlying27 c_el (fun _ h => el_of r h) h6
    obtain ⟨I, hI, bI, lI, -⟩ := r.slices (E := eInt) (fun _ => True) Tryz.underlying28 c_int (fun _ h => in_of r h) h7
    rw [show Tryz.prog.bytesOf 62 = 32 by kernel_rfl] at bE
    rw [show Tryz.prog.bytesOf 59 = 48 by kernel_rfl] at bQ
    rw [show Tryz.prog.bytesOf 3 = 8 by kernel_rfl] at bI
    exact ⟨⟨k, b, st, s, nm, E, Q, I⟩, x7, x8, x9, rfl, ⟨hE, hQ, hI⟩, ⟨bE, bQ, bI⟩, ⟨hsz, pE, pQ, lE, lQ, lI⟩⟩
/-- Bounds of an operation that came in. -/
structure OpM (M L : Nat) (o : OpV) : Prop where
  type : o.type.size ≤ M
  id : o.id.size ≤ M
  field : o.field.size ≤ M
  value : o.value.size ≤ M
  deps : o.deps.length ≤ L
  dots : o.dots.length ≤ L
  bd : o.deps.length * 8 ≤ reachBytes
  bo : o.dots.length * 16 ≤ reachBytes
theorem OpM.b {o : OpV} (h : OpM M L o) (hM : M ≤ 2 ^ 63 - 1) : OpB o := ⟨Nat.le_trans h.type hM, Nat.le_trans h.id hM, Nat.le_trans h.field hM, Nat.le_trans h.value hM⟩
theorem c_op : Tryz.prog.cellsOf 35 = 14 := by kernel_rfl
theorem c_dts : Tryz.prog.cellsOf 33 = 1 := by kernel_rfl
theorem opR_of (r : Rdr Tryz.prog w M L R) {cs : List Value} (h : R 35 cs) : ∃ o vd vo, cs = (opval o vd vo).cells.toList ∧ OpR w o vd vo ∧ OpM M L o := by
  obtain ⟨hl, hf⟩ := r.struct Tryz.underlying35 h
  rw [c_op] at hl
  match cs, hl with
  | [x0, x1, x2, x3, x4, x5, x6, x7, x8, x9, xa, xb, xc, xd], _ =>
    have h0 := hf _ List.mem_cons_self
    have h1 := hf _ (List.mem_cons_of_mem _ List.mem_cons_self)
    have h2 := hf _ (List.mem_cons_of_mem _ (List.mem_cons_of_mem _ List.mem_cons_self))
    have h3 := hf _ (List.mem_cons_of_mem _ (List.mem_cons_of_mem _ (List.mem_cons_of_mem _ List.mem_cons_self)))
    have h4 := hf _ (List.mem_cons_of_mem _ (List.mem_cons_of_mem _ (List.mem_cons_of_mem _ (List.mem_cons_of_mem _ List.mem_cons_self))))
    have h5 := hf _ (List.mem_cons_of_mem _ (List.mem_cons_of_mem _ (List.mem_cons_of_mem _ (List.mem_cons_of_mem _ (List.mem_cons_of_mem _ List.mem_cons_self)))))
    have h6 := hf _ (List.mem_cons_of_mem _ (List.mem_cons_of_mem _ (List.mem_cons_of_mem _ (List.mem_cons_of_mem _ (List.mem_cons_of_mem _ (List.mem_cons_of_mem _ List.mem_cons_self))))))
    have h7 := hf _ (List.mem_cons_of_mem _ (List.mem_cons_of_mem _ (List.mem_cons_of_mem _ (List.mem_cons_of_mem _ (List.mem_cons_of_mem _ (List.mem_cons_of_mem _ (List.mem_cons_of_mem _ List.mem_cons_self)))))))
    have h8 := hf _ (List.mem_cons_of_mem _ (List.mem_cons_of_mem _ (List.mem_cons_of_mem _ (List.mem_cons_of_mem _ (List.mem_cons_of_mem _ (List.mem_cons_of_mem _ (List.mem_cons_of_mem _ (List.mem_cons_of_mem _ List.mem_cons_self))))))))
    have h9 := hf _ (List.mem_cons_of_mem _ (List.mem_cons_of_mem _ (List.mem_cons_of_mem _ (List.mem_cons_of_mem _ (List.mem_cons_of_mem _ (List.mem_cons_of_mem _ (List.mem_cons_of_mem _ (List.mem_cons_of_mem _ (List.mem_cons_of_mem _ List.mem_cons_self)))))))))
    have ha := hf _ (List.mem_cons_of_mem _ (List.mem_cons_of_mem _ (List.mem_cons_of_mem _ (List.mem_cons_of_mem _ (List.mem_cons_of_mem _ (List.mem_cons_of_mem _ (List.mem_cons_of_mem _ (List.mem_cons_of_mem _ (List.mem_cons_of_mem _ (List.mem_cons_of_mem _ List.mem_cons_self))))))))))
    simp only [c_int, c_str, c_dot, c_pair, c_dts, c_ints] at h0 h1 h2 h3 h4 h5 h6 h7 h8 h9 ha
    clear hf h
    obtain ⟨dt, hd⟩ := two_of r h0 (.inr (.inr rfl))
    obtain ⟨tm, rfl⟩ := r.int1 Tryz.underlying3 h1
    obtain ⟨I, hI, bI, lI, -⟩ := r.slices (E := eInt) (fun _ => True) Tryz.underlying28 c_int (fun _ h => in_of r h) h2
    obtain ⟨k, rfl⟩ := r.int1 Tryz.underlying3 h3
    obtain ⟨s4, rfl, z4⟩ := r.str1 Tryz.underlying9 h4
    obtain ⟨s5, rfl, z5⟩ := r.str1 Tryz.underlying9 h5
    obtain ⟨s6, rfl, z6⟩ := r.str1 Tryz.underlying9 h6
    obtain ⟨s7, rfl, z7⟩ := r.str1 Tryz.underlying9 h7
    obtain ⟨nm, hn⟩ := two_of r h8 (.inr (.inl rfl))
    obtain ⟨rf, hr⟩ := two_of r h9 (.inr (.inr rfl))
    obtain ⟨D, hD, bD, lD, -⟩ := r.slices (E := eDt) (fun _ => True) Tryz.underlying33 c_dot (fun _ h => dt_of r h) ha
    have hd' : [x0, x1] = [Value.int .i64 dt.1, .int .i64 dt.2] := hd
    have hn' : [x9, xa] = [Value.int .i64 nm.1, .int .i64 nm.2] := hn
    have hr' : [xb, xc] = [Value.int .i64 rf.1, .int .i64 rf.2] := hr
    simp only [List.cons.injEq, and_true] at hd' hn' hr'
    obtain ⟨rfl, rfl⟩ := hd'
    obtain ⟨rfl, rfl⟩ := hn'
    obtain ⟨rfl, rfl⟩ := hr'
    rw [show Tryz.prog.bytesOf 32 = 16 by kernel_rfl] at bD
    rw [show Tryz.prog.bytesOf 3 = 8 by kernel_rfl] at bI
    exact ⟨⟨dt, tm, I, k, s4, s5, s6, s7, nm, rf, D⟩, x3, xd, rfl, ⟨hI, hD⟩, ⟨z4, z5, z6, z7, lI, lD, bI, bD⟩⟩
theorem cellA_of {base : Nat} {v : Value} (r : Rdr Tryz.prog w M L R) (ok : Value.okWide Tryz.prog w .any base 30 v) (h : R 30 v.cells.toList) : ∃ c ve vl vs, v = cval c ve vl vs ∧ CellR w c ve vl vs ∧ CellB c ∧ CellM M L c := by
  obtain ⟨cs, rfl, hsz⟩ := okWide_struct Tryz.underlying30 ok
  obtain ⟨c, ve, vl, vs, e, h1, h2, h3⟩ := cellR_of r h
  have e' : cs.toList = (cellCells c ve vl vs).toList := e
  exact ⟨c, ve, vl, vs, congrArg Value.agg (Array.toList_inj.1 e'), h1, h2, h3⟩
theorem opA_of {base : Nat} {v : Value} (r : Rdr Tryz.prog w M L R) (ok : Value.okWide Tryz.prog w .any base 35 v) (h : R 35 v.cells.toList) : ∃ o vd vo, v = opval o vd vo ∧ OpR w o vd vo ∧ OpM M L o := by
  obtain ⟨cs, rfl, hsz⟩ := okWide_struct Tryz.underlying35 ok
  obtain ⟨o, vd, vo, e, h1, h2⟩ := opR_of r h
  have e' : cs.toList = (opCells o vd vo).toList := e
  exact ⟨o, vd, vo, congrArg Value.agg (Array.toList_inj.1 e'), h1, h2⟩
end
end Go.Proofs.YtofikfkgiblblaaGreatDoor

/- CellKeeps at what the row hands in. -/
namespace Go.Proofs.YtofikfkgiblblaaGreatDoor
set_option linter.unusedVariables false
set_option linter.unusedSimpArgs false
open Go.RowKit Go.Lib Go.Tt Go.WideShapes
theorem rb63 : reachBytes ≤ 2 ^ 63 - 1 := by decide +kernel
set_option maxRecDepth 100000 in
theorem lkeeps_row {base : Nat} (w : World) (tab : Tab w) {v0 v1 : Value} (ok0 : Value.okWide Tryz.prog w .any base 30 v0) (h0 : Rd Tryz.prog w 30 v0.cells.toList) (ok1 : Value.okWide Tryz.prog w .any base 35 v1) (h1 : Rd Tryz.prog w 35 v1.cells.toList)
    (n : Int) (_ : (Lit.int .i64 n).wf = true) : Calls Tryz.prog 4 #[v0, v1, .int .i64 n] w fun e w' => e = .returned (.bool true) ∧ Below w.heap.size w w' := by
  obtain ⟨c, ve, vl, vs, rfl, hR, hB, hM⟩ := cellA_of rdr_rd ok0 h0
  obtain ⟨o, vd, vo, rfl, hO, hN⟩ := opA_of rdr_rd ok1 h1
  exact (lkeeps_ok tab hR hB (hM.z rb63) hO (hN.b rb63) n).mono fun e w' ⟨he, f⟩ => ⟨he, f.below (fun _ _ h => h) (Nat.le_refl _)⟩
end Go.Proofs.YtofikfkgiblblaaGreatDoor

/- The card of tattlelaw12.CellKeeps. -/
namespace Go.Proofs.YtofikfkgiblblaaGreatDoor.cellKeeps
set_option linter.unusedVariables false
set_option linter.unusedSimpArgs false
open Go.ChangeShapes Go.WideShapes Go.ChangeAt Go.RowKit Go.Tt
open Go.ChangeMaps (open_string shut_string)
set_option linter.unusedVariables false
set_option maxRecDepth 100000 in
theorem contract (H : Type) (enc : TypeId × Value → H) (W : World) (base : Nat) (args : Array Value) (ds gs : List (DataW H)) (before : List MemPlace)
    (hval0 : ∀ (j : Nat) t v, Tryz.f4.params[j]? = some t → args[j]? = some v → Value.okWide Tryz.prog W .any base t v)
    (hW : DataW.Whole enc Tryz.prog Tryz.f4.params.toList Rows.cellKeepsSpec.vars false W args.toList ds gs before)
    (hsz0 : (DataW.weightsEach Tryz.prog (Tryz.f4.params.toList ++ Rows.cellKeepsSpec.plain.varTypes Tryz.prog) (ds ++ gs)).all (· ≤ reachBytes) = true)
    (hL : laidMetH Tryz.prog tabs W) :
    Calls Tryz.prog 4 args W fun e W' => ∃ v, e = .returned v ∧ Rows.cellKeepsSpec.post enc Tryz.prog Tryz.f4 false true false false W args v W' := by
  have hval : ∀ (j : Nat) t v, Tryz.f4.params[j]? = some t → args[j]? = some v → Value.okWide Tryz.prog W .any base t v := hval0
  have hW' := hW
  obtain ⟨p, q, hA0, hV, rfl, hfz, hnd⟩ := hW
  have hA : DataW.TrodAll enc Tryz.prog W 0 (fun _ => true) true Tryz.f4.params.toList args.toList ds p := hA0
  rw [Tryz.params4] at hA hval
  have hB := hA
  obtain ⟨v0, vs0, d0, ds0, p0, q0, hargs, rfl, rfl, h0, r0⟩ := trodAll_cons hA
  obtain ⟨v1, vs1, d1, ds1, p1, q1, rfl, rfl, rfl, h1, r1⟩ := trodAll_cons r0
  obtain ⟨v2, vs2, d2, ds2, p2, q2, rfl, rfl, rfl, h2, r2⟩ := trodAll_cons r1
  obtain ⟨rfl, rfl, rfl⟩ := trodAll_nil r2
  obtain rfl : args = #[v0, v1, v2] := by cases args; simp_all
  obtain ⟨rfl, rfl⟩ := trodVars_none hV
  obtain ⟨a2, rfl, e2, _, w2⟩ := open_int Tryz.underlying3 (hval 2 3 v2 rfl rfl) h2
  refine (lkeeps_row W (table hL) (hval 0 30 v0 rfl rfl) (rd_of_trod h0 hsz0 (j := 0) rfl rfl) (hval 1 35 v1 rfl rfl) (rd_of_trod h1 hsz0 (j := 1) rfl rfl) a2 w2).mono fun e W' ⟨he, bel⟩ => ?_
  subst he
  exact ⟨_, rfl, _, _, _, [], _, [], hW', trodAll_mk1 (shut_bool Tryz.underlying4 _), below_trodAll laidOut bel (by kernel_rfl) hB (trodAll_lt hB), rfl, bel.frame _, fun h => by cases h⟩
theorem laid_met (os : Os) : laidMet Tryz.prog Rows.cellKeepsRow.laid ((laidWorld os).forCall (fun _ _ => 0) ⟨#[], #[.agg #[.int .i64 0, .bool false, .int .i64 0, .int .i64 0, .string ⟨#[]⟩, .int .i64 0, .int .i64 0, .slice none 0 0, .slice none 0 0, .slice none 0 0], .agg #[.int .i64 0, .int .i64 0, .int .i64 0, .slice none 0 0, .int .i64 0, .string ⟨#[]⟩, .string ⟨#[]⟩, .string ⟨#[]⟩, .string ⟨#[]⟩, .int .i64 0, .int .i64 0, .int .i64 0, .int .i64 0, .slice none 0 0], .int .i64 0], []⟩).memory :=
  laidMet_of_run' 8 (by kernel_rfl) (by kernel_rfl)
noncomputable def rdW (os : Os) {H : Type} (enc : TypeId × Value → H) : Option (List (DataW H) × List (DataW H) × List MemPlace) := DataW.whole enc Tryz.prog ((laidWorld os).forCall (fun _ _ => 0) ⟨#[], #[.agg #[.int .i64 0, .bool false, .int .i64 0, .int .i64 0, .string ⟨#[]⟩, .int .i64 0, .int .i64 0, .slice none 0 0, .slice none 0 0, .slice none 0 0], .agg #[.int .i64 0, .int .i64 0, .int .i64 0, .slice none 0 0, .int .i64 0, .string ⟨#[]⟩, .string ⟨#[]⟩, .string ⟨#[]⟩, .string ⟨#[]⟩, .int .i64 0, .int .i64 0, .int .i64 0, .int .i64 0, .slice none 0 0], .int .i64 0], []⟩).memory Tryz.f4.params.toList Rows.cellKeepsSpec.vars false (#[.agg #[.int .i64 0, .bool false, .int .i64 0, .int .i64 0, .string ⟨#[]⟩, .int .i64 0, .int .i64 0, .slice none 0 0, .slice none 0 0, .slice none 0 0], .agg #[.int .i64 0, .int .i64 0, .int .i64 0, .slice none 0 0, .int .i64 0, .string ⟨#[]⟩, .string ⟨#[]⟩, .string ⟨#[]⟩, .string ⟨#[]⟩, .int .i64 0, .int .i64 0, .int .i64 0, .int .i64 0, .slice none 0 0], .int .i64 0] : Array Value).toList 8
theorem rdW_some (os : Os) {H : Type} (enc : TypeId × Value → H) : (rdW os enc).isSome = true := by kernel_rfl
theorem reads (os : Os) {H : Type} (enc : TypeId × Value → H) : rdW os enc = some (((rdW os enc).get (rdW_some os enc)).1, ((rdW os enc).get (rdW_some os enc)).2.1, ((rdW os enc).get (rdW_some os enc)).2.2) := get_parts (rdW os enc) (rdW_some os enc)
set_option maxRecDepth 100000 in
theorem lifted (os : Os) (started : os.Started) (H : Type) (enc : TypeId × Value → H) (G : Stop.Interp) :
    ReturnsInHanded {} Tryz.checked os 4 .any ((OpenSpec.ofChange Rows.cellKeepsSpec).preRow enc Tryz.prog Tryz.f4 Rows.cellKeepsRow.domain false Rows.cellKeepsRow.laid) (((OpenSpec.ofChange Rows.cellKeepsSpec).at G).post enc Tryz.prog Tryz.f4 false true false false) := by
  have hx := reads os enc
  refine returnsInHanded_of_row (C := Tryz.checked) (s := OpenSpec.ofChange Rows.cellKeepsSpec) own started (by kernel_rfl) Tryz.func4
    (witness_row_at (enc := enc) (C := Tryz.checked) false (laidWorld os) #[.agg #[.int .i64 0, .bool false, .int .i64 0, .int .i64 0, .string ⟨#[]⟩, .int .i64 0, .int .i64 0, .slice none 0 0, .slice none 0 0, .slice none 0 0], .agg #[.int .i64 0, .int .i64 0, .int .i64 0, .slice none 0 0, .int .i64 0, .string ⟨#[]⟩, .string ⟨#[]⟩, .string ⟨#[]⟩, .string ⟨#[]⟩, .int .i64 0, .int .i64 0, .int .i64 0, .int .i64 0, .slice none 0 0], .int .i64 0] rfl (by kernel_rfl) (by kernel_rfl) (by kernel_rfl) (OpenSpec.preRow_of_cond 8 hx (by kernel_rfl) (fun k hk => by cases hk) (by kernel_rfl) (laid_met os))) ?_
  intro W base args ds gs before hval hW _ hcond hsz hL _ _
  exact contract H enc W base args ds gs before hval hW hsz hL
theorem said : Rows.CellKeepsSaid :=
  OpenClaim.holds_of_cond 4 Tryz.f4 rfl rfl rfl rfl rfl rfl rfl ⟨rfl, rfl, rfl, rfl, rfl⟩ rfl rfl rfl rfl rfl (by kernel_rfl) Tryz.func4 (by kernel_rfl)
    (of_decide_eq_true (by kernel_rfl)) (by unfold Func.isWrapper; first | (rw [if_pos (by decide +kernel)]; kernel_rfl) | (rw [if_neg (by decide +kernel)]; exact ⟨rfl, rfl⟩))
    (fun os started H enc _ G => by rw [OpenClaim.pre_eq_preRow]; exact lifted os started H enc G)
theorem plain (f : FuncId) (fn : Func) (hf : Tryz.pinned.checked.prog.funcNamed "tattle/tattlelaw12.CellKeeps" = some f) (hfn : Tryz.pinned.checked.prog.funcs[f]? = some fn) :
    false = Tryz.pinned.checked.prog.looks [] ∧ ∀ (j : Nat) t, fn.params[j]? = some t → Tryz.pinned.checked.prog.wantsStandIn t = false := by
  obtain rfl : f = 4 := Option.some.inj ((show Tryz.prog.funcNamed "tattle/tattlelaw12.CellKeeps" = some 4 by kernel_rfl).symm.trans hf) |>.symm
  obtain rfl : fn = Tryz.f4 := (Option.some.inj (Tryz.func4.symm.trans hfn)).symm
  refine ⟨by kernel_rfl, fun j t ht => ?_⟩
  rw [Tryz.params4] at ht
  have ht := Array.mem_of_getElem? ht
  simp only [List.mem_toArray, List.mem_cons, List.not_mem_nil, or_false] at ht
  rcases ht with rfl | rfl | rfl
  · exact (show Tryz.prog.wantsStandIn 30 = false by kernel_rfl)
  · exact (show Tryz.prog.wantsStandIn 35 = false by kernel_rfl)
  · exact (show Tryz.prog.wantsStandIn 3 = false by kernel_rfl)
theorem card : Rows.CellKeepsCardSaid :=
  Claim7.holds_tied_plain_at .later [] _ _ _ _ said (fun _ h => by cases h) (by kernel_rfl) (fun _ h => by cases h) cellKeeps_row_tie rfl ⟨rfl, rfl⟩ (by kernel_rfl) rfl plain (by kernel_rfl)
end Go.Proofs.YtofikfkgiblblaaGreatDoor.cellKeeps
namespace Go.Proofs.YtofikfkgiblblaaGreatDoor
set_option linter.unusedVariables false
set_option linter.unusedSimpArgs false
/-- The card, under a short name, for the claim. -/
theorem cellKeeps_holds : Rows.CellKeepsCardSaid := cellKeeps.card
#print axioms cellKeeps_holds
end Go.Proofs.YtofikfkgiblblaaGreatDoor

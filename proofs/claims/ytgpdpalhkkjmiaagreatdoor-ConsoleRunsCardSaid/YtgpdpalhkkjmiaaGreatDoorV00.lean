/- Merged: ConW. -/
import Derived.Lib.FieldsP
import Derived.Lib.DecodeN
import Derived.Lib.SplitLaws
import Derived.Lib.SlTrimSet
import Derived.Lib.Atoi
import Derived.Test.YtgpdpalhkkjmiaaGreatDoorProg
/- The console's words and lines: plain. -/
namespace Go.Proofs.YtgpdpalhkkjmiaaGreatDoor
set_option linter.unusedVariables false
set_option linter.unusedSimpArgs false
set_option linter.unusedVariables false
set_option linter.unusedSimpArgs false
open Go.Lib
def wsB (c : UInt8) : Bool := c.toNat == 32 || c.toNat == 9
def wsR (r : Nat) : Bool := r == 32 || r == 9
def putW : List UInt8 → List (List UInt8)
  | [] => []
  | b :: t => [b :: t]
def wordsG : List UInt8 → List UInt8 → List (List UInt8)
  | cur, [] => putW cur
  | cur, b :: t => if wsB b then putW cur ++ wordsG [] t else wordsG (cur ++ [b]) t
def wordsL (l : List UInt8) : List (List UInt8) := wordsG [] l
theorem putW_ne {c : List UInt8} (h : c ≠ []) : putW c = [c] := by
  cases c with
  | nil => exact absurd rfl h
  | cons b t => rfl
theorem wordsG_app : ∀ (xs cur r : List UInt8), (∀ x ∈ xs, wsB x = false) → wordsG cur (xs ++ r) = wordsG (cur ++ xs) r
  | [], cur, r, _ => by simp
  | x :: xs, cur, r, h => by
    have hx := h x (List.mem_cons_self ..)
    show (if wsB x then _ else wordsG (cur ++ [x]) (xs ++ r)) = _
    rw [hx, if_neg (by simp), wordsG_app xs _ r fun y hy => h y (List.mem_cons_of_mem _ hy)]
    simp
theorem dec_n (n b0 b1 b2 b3 : Nat) (hn : 1 ≤ n) : ((decodeN n b0 b1 b2 b3).1 = 32 ↔ b0 = 32) ∧ ((decodeN n b0 b1 b2 b3).1 = 9 ↔ b0 = 9) ∧ 1 ≤ (decodeN n b0 b1 b2 b3).2 ∧ (decodeN n b0 b1 b2 b3).2 ≤ n ∧ (decodeN n b0 b1 b2 b3).2 ≤ 4 ∧ (b0 < 128 → (decodeN n b0 b1 b2 b3).2 = 1) ∧ (2 ≤ (decodeN n b0 b1 b2 b3).2 → b1 / 64 = 2) ∧ (3 ≤ (decodeN n b0 b1 b2 b3).2 → b2 / 64 = 2) ∧ (4 ≤ (decodeN n b0 b1 b2 b3).2 → b3 / 64 = 2) := by
  unfold decodeN
  repeat' split
  all_goals (refine ⟨?_, ?_, ?_, ?_, ?_, ?_, ?_, ?_, ?_⟩ <;> dsimp only <;> omega)
theorem get!_list {s : ByteArray} {i : Nat} (h : i < s.data.toList.length) : s.get! i = s.data.toList[i] := by
  have h' : i < s.data.size := by simpa using h
  unfold ByteArray.get!
  rw [Array.getElem_toList]
  exact getElem!_pos s.data i h'
theorem dec_at (s : ByteArray) (pos : Nat) (h : pos < s.data.toList.length) : wsR (Utf8.decode s pos).1 = wsB s.data.toList[pos] ∧ 1 ≤ (Utf8.decode s pos).2 ∧ pos + (Utf8.decode s pos).2 ≤ s.data.toList.length ∧ (wsB s.data.toList[pos] = true → (Utf8.decode s pos).2 = 1) ∧ (wsB s.data.toList[pos] = false → ∀ x ∈ (s.data.toList.drop pos).take (Utf8.decode s pos).2, wsB x = false) := by
  have hsz : s.size = s.data.toList.length := size_eq s
  have e0 := get!_list h
  rw [decode_at]
  obtain ⟨h1, h2, h3, h4, h5, h6, h7, h8, h9⟩ := dec_n (s.size - pos) (s.get! pos).toNat (s.get! (pos + 1)).toNat (s.get! (pos + 2)).toNat (s.get! (pos + 3)).toNat (by omega)
  generalize hd : decodeN (s.size - pos) (s.get! pos).toNat (s.get! (pos + 1)).toNat (s.get! (pos + 2)).toNat (s.get! (pos + 3)).toNat = D at *
  rw [e0] at h1 h2 h6
  have hw : wsR D.1 = wsB s.data.toList[pos] := by
    unfold wsR wsB
    rw [Bool.eq_iff_iff]
    simp only [Bool.or_eq_true, beq_iff_eq]
    omega
  refine ⟨hw, h3, by omega, fun hb => h6 ?_, fun hb x hx => ?_⟩
  · unfold wsB at hb
    simp only [Bool.or_eq_true, beq_iff_eq] at hb
    omega
  · obtain ⟨j, hj, rfl⟩ := List.getElem_of_mem hx
    rw [List.length_take, List.length_drop] at hj
    rw [List.getElem_take, List.getElem_drop]
    have key : ∀ k (hk : pos + k < s.data.toList.length), (s.get! (pos + k)).toNat / 64 = 2 → wsB s.data.toList[pos + k] = false := by
      intro k hk hq
      rw [get!_list hk] at hq
      unfold wsB
      rw [Bool.or_eq_false_iff, beq_eq_false_iff_ne, beq_eq_false_iff_ne]
      omega
    rcases (by omega : j = 0 ∨ j = 1 ∨ j = 2 ∨ j = 3) with rfl | rfl | rfl | rfl
    · exact hb
    · exact key 1 _ (h7 (by omega))
    · exact key 2 _ (h8 (by omega))
    · exact key 3 _ (h9 (by omega))
theorem spansP_eq (s : ByteArray) : ∀ (f pos : Nat) (st : Option Nat) (acc : List (Nat × Nat)), s.size ≤ pos + f → pos ≤ s.size → (∀ a, st = some a → a < pos) →
    acc.map (fun p => pieceU s.data.toList p.1 p.2) ++ wordsG (openPiece s.data.toList st pos) (s.data.toList.drop pos) = (closeSpans s (spansFromP wsR s f pos st acc)).map (fun p => pieceU s.data.toList p.1 p.2)
  | 0, pos, st, acc, h, hp, hst => by
    obtain rfl : pos = s.size := by omega
    have hd : s.data.toList.drop s.size = [] := List.drop_eq_nil_of_le (by rw [← size_eq]; exact Nat.le_refl _)
    rw [hd]
    cases st with
    | none => simp [spansFromP, closeSpans, openPiece, wordsG, putW]
    | some a =>
      have := pieceU_ne s.data.toList a s.size (hst a rfl) (by rw [← size_eq]; exact Nat.le_refl _)
      simp [spansFromP, closeSpans, openPiece, wordsG, putW_ne this]
  | f + 1, pos, st, acc, h, hp, hst => by
    have hsz : s.size = s.data.toList.length := size_eq s
    by_cases hlt : pos < s.size
    · have hl : pos < s.data.toList.length := by omega
      obtain ⟨q1, q2, q3, q4, q5⟩ := dec_at s pos hl
      have hcons : s.data.toList.drop pos = s.data.toList[pos] :: s.data.toList.drop (pos + 1) := List.drop_eq_getElem_cons hl
      simp only [spansFromP, if_pos hlt]
      cases hsp : wsB s.data.toList[pos] with
      | true =>
        rw [hsp] at q1
        have hw1 := q4 hsp
        simp only [q1, if_true]
        rw [hcons]
        simp only [wordsG, hsp, if_true]
        rw [hw1]
        cases st with
        | none =>
          have ih := spansP_eq s f (pos + 1) none acc (by omega) (by omega) (fun a h => by cases h)
          simpa [openPiece, putW] using ih
        | some a =>
          have hpn := pieceU_ne s.data.toList a pos (hst a rfl) (by omega)
          have ih := spansP_eq s f (pos + 1) none (acc ++ [(a, pos)]) (by omega) (by omega) (fun a h => by cases h)
          simpa [openPiece, putW_ne hpn] using ih
      | false =>
        rw [hsp] at q1
        simp only [q1, Bool.false_eq_true, if_false]
        have hx := q5 hsp
        have hsplit : s.data.toList.drop pos = (s.data.toList.drop pos).take (Utf8.decode s pos).2 ++ s.data.toList.drop (pos + (Utf8.decode s pos).2) := by
          rw [← List.drop_drop, List.take_append_drop]
        rw [hsplit, wordsG_app _ _ _ hx]
        cases st with
        | none =>
          have ih := spansP_eq s f (pos + (Utf8.decode s pos).2) (some pos) acc (by omega) (by omega) (fun a h => by cases h; omega)
          have e : ([] : List UInt8) ++ (s.data.toList.drop pos).take (Utf8.decode s pos).2 = pieceU s.data.toList pos (pos + (Utf8.decode s pos).2) := by
            unfold pieceU
            rw [List.nil_append, Nat.add_sub_cancel_left]
          simp only [openPiece] at ih ⊢
          rw [e]
          exact ih
        | some a =>
          have ih := spansP_eq s f (pos + (Utf8.decode s pos).2) (some a) acc (by omega) (by omega) (fun b h => by cases h; have := hst a rfl; omega)
          simp only [openPiece] at ih ⊢
          rw [pieceU_grow _ _ _ _ (Nat.le_of_lt (hst a rfl))]
          exact ih
    · obtain rfl : pos = s.size := by omega
      have hd : s.data.toList.drop s.size = [] := List.drop_eq_nil_of_le (by rw [← size_eq]; exact Nat.le_refl _)
      rw [hd, spansFromP_end _ s _ _ _ _ hlt]
      cases st with
      | none => simp [closeSpans, openPiece, wordsG, putW]
      | some a =>
        have := pieceU_ne s.data.toList a s.size (hst a rfl) (by rw [← size_eq]; exact Nat.le_refl _)
        simp [closeSpans, openPiece, wordsG, putW_ne this]
theorem extract_piece (s : ByteArray) (a b : Nat) : (s.extract a b).data.toList = pieceU s.data.toList a b := by
  unfold pieceU
  simp [List.take_drop, Nat.add_sub_cancel']
/-- strings.FieldsFunc by blanks: the words. -/
theorem fields_words (s : ByteArray) : (goFieldsP wsR s).map (·.data.toList) = wordsL s.data.toList := by
  have h := spansP_eq s s.size 0 none [] (by omega) (Nat.zero_le _) (fun a h => by cases h)
  simp only [List.map_nil, List.nil_append, List.drop_zero, openPiece] at h
  unfold goFieldsP wordsL
  rw [h, List.map_map]
  exact List.map_congr_left fun p _ => extract_piece s p.1 p.2
/-- A script's lines. -/
def linesG : List UInt8 → List UInt8 → List (List UInt8)
  | cur, [] => [cur]
  | cur, b :: t => if b.toNat == 10 then cur :: linesG [] t else linesG (cur ++ [b]) t
def linesL (l : List UInt8) : List (List UInt8) := linesG [] l
theorem nl_iff (b : UInt8) : (b.toNat == 10) = (b == 10) := by
  rw [Bool.eq_iff_iff, beq_iff_eq, beq_iff_eq]
  exact ⟨fun h => UInt8.toNat.inj h, fun h => by rw [h]; rfl⟩
theorem linesG_no : ∀ (l cur : List UInt8), (10 : UInt8) ∉ l → linesG cur l = [cur ++ l]
  | [], cur, _ => by simp [linesG]
  | b :: t, cur, h => by
    have hb : (b.toNat == 10) = false := by
      rw [nl_iff, beq_eq_false_iff_ne]
      exact fun e => h (by rw [e]; exact List.mem_cons_self ..)
    show (if b.toNat == 10 then _ else linesG (cur ++ [b]) t) = _
    rw [hb, if_neg (by simp), linesG_no t _ fun hm => h (List.mem_cons_of_mem _ hm)]
    simp
theorem linesG_at : ∀ (x cur t : List UInt8), (10 : UInt8) ∉ x → linesG cur (x ++ 10 :: t) = (cur ++ x) :: linesG [] t
  | [], cur, t, _ => by simp [linesG]
  | b :: x, cur, t, h => by
    have hb : (b.toNat == 10) = false := by
      rw [nl_iff, beq_eq_false_iff_ne]
      exact fun e => h (by rw [e]; exact List.mem_cons_self ..)
    show (if b.toNat == 10 then _ else linesG (cur ++ [b]) (x ++ 10 :: t)) = _
    rw [hb, if_neg (by simp), linesG_at x _ t fun hm => h (List.mem_cons_of_mem _ hm)]
    simp
theorem index_no {l : List UInt8} {c : UInt8} (h : c ∉ l) : index l [c] = -1 := by
  rw [index_one]
  have := indexByte_ge l c
  by_cases hc : indexByte l c = -1
  · exact hc
  · obtain ⟨o, ho⟩ : ∃ o : Nat, indexByte l c = o := ⟨(indexByte l c).toNat, by omega⟩
    exact absurd (List.mem_of_getElem? (indexByte_some ho).1) h
theorem index_at : ∀ (x : List UInt8) {t : List UInt8} {c : UInt8}, c ∉ x → index (x ++ c :: t) [c] = x.length
  | [], t, c, _ => by
    rw [index_one]
    show (if c == c then (0 : Int) else _) = _
    rw [if_pos (by simp)]; rfl
  | b :: x, t, c, h => by
    have hb : ¬ (b == c) = true := by
      rw [beq_iff_eq]
      exact fun e => h (by rw [e]; exact List.mem_cons_self ..)
    have ih := index_at x (t := t) fun hm => h (List.mem_cons_of_mem _ hm)
    rw [index_one] at ih ⊢
    show (if b == c then (0 : Int) else if indexByte (x ++ c :: t) c == -1 then -1 else indexByte (x ++ c :: t) c + 1) = _
    rw [if_neg hb, ih, if_neg (by rw [beq_iff_eq]; omega)]
    simp
theorem split_lines : ∀ (n : Nat) (l : List UInt8), l.length ≤ n → splitK [10] 0 (l.count 10) l = linesG [] l
  | n, l, h => by
    by_cases hm : (10 : UInt8) ∈ l
    · obtain ⟨x, t, rfl, hx⟩ := List.eq_append_cons_of_mem hm
      rw [linesG_at x [] t hx, List.nil_append]
      have hc : (x ++ 10 :: t).count 10 = t.count 10 + 1 := by
        rw [List.count_append, List.count_cons_self, List.count_eq_zero_of_not_mem hx]; omega
      rw [hc]
      have hi := index_at x (t := t) hx
      unfold splitK
      rw [hi, if_neg (by rw [beq_iff_eq]; omega)]
      cases n with
      | zero => simp at h
      | succ n =>
        rw [List.length_append, List.length_cons] at h
        rw [← split_lines n t (by omega)]
        simp
    · rw [linesG_no l [] hm, List.nil_append, List.count_eq_zero_of_not_mem hm]
      rfl
/-- strings.Split by the line feed: the lines. -/
theorem splitB_lines (s : ByteArray) : (splitB ⟨#[10]⟩ 0 (countB s ⟨#[10]⟩) s).map (·.data.toList) = linesL s.data.toList := by
  rw [splitB_data]
  have : countB s ⟨#[10]⟩ = s.data.toList.count 10 := count_one 10 _
  rw [this]
  exact split_lines _ _ (Nat.le_refl _)
/-- A number's digits. -/
def dgC (c : UInt8) : Bool := Nat.ble 48 c.toNat && Nat.ble c.toNat 57
def numD (ds : List UInt8) : Option Nat := if ds.isEmpty || Nat.ble 7 ds.length || !ds.all dgC then none else decFrom 0 ds
/-- A number of the console. -/
def numL : List UInt8 → Option Int
  | [] => none
  | b :: t => if b == 45 then (numD t).map (fun (m : Nat) => -(m : Int)) else (numD (b :: t)).map (fun (m : Nat) => (m : Int))
theorem numL_cons (b : UInt8) (t : List UInt8) : numL (b :: t) = if b == 45 then (numD t).map (fun (m : Nat) => -(m : Int)) else (numD (b :: t)).map (fun (m : Nat) => (m : Int)) := rfl
theorem atoi_cons (b : UInt8) (r : List UInt8) : atoi (b :: r) = if b == 45 then (decNat r).map (fun (m : Nat) => -(m : Int)) else if b == 43 then (decNat r).map (fun (m : Nat) => (m : Int)) else (decNat (b :: r)).map (fun (m : Nat) => (m : Int)) := rfl
theorem dig_c {b : UInt8} : dgC b = true ↔ ∃ d, digitVal b = some d := by
  unfold dgC digitVal
  rw [Bool.and_eq_true, Nat.ble_eq, Nat.ble_eq]
  constructor
  · intro h; exact ⟨_, if_pos h⟩
  · rintro ⟨d, hd⟩
    by_cases h : 48 ≤ b.toNat ∧ b.toNat ≤ 57
    · exact h
    · rw [if_neg h] at hd; cases hd
theorem num_atoi {s : List UInt8} {n : Int} (h : numL s = some n) : atoi s = some n ∧ s.length ≤ 7 := by
  cases s with
  | nil => cases h
  | cons b t =>
    rw [numL_cons] at h
    rw [atoi_cons]
    have key : ∀ ds m, numD ds = some m → decNat ds = some m ∧ ds.length ≤ 6 ∧ ∀ x ∈ ds, dgC x = true := by
      intro ds m hd
      unfold numD at hd
      split at hd
      · cases hd
      · rename_i hc
        have c1 : ds.isEmpty = false := by cases h1 : ds.isEmpty with | false => rfl | true => exact absurd (by rw [h1]; rfl) hc
        have c2 : ds.length ≤ 6 := by
          rcases Nat.lt_or_ge 6 ds.length with h7 | h7
          · exact absurd (by rw [Nat.ble_eq_true_of_le (show 7 ≤ ds.length from h7), Bool.or_true, Bool.true_or]) hc
          · exact h7
        have c3 : ds.all dgC = true := by cases h1 : ds.all dgC with | true => rfl | false => exact absurd (by rw [h1]; simp) hc
        refine ⟨?_, c2, List.all_eq_true.1 c3⟩
        unfold decNat; rw [c1]; exact hd
    by_cases hb : (b == 45) = true
    · rw [if_pos hb] at h ⊢
      cases hd : numD t with
      | none => rw [hd] at h; cases h
      | some m =>
        rw [hd] at h
        obtain ⟨k1, k2, k3⟩ := key _ _ hd
        rw [k1]
        exact ⟨h, by rw [List.length_cons]; omega⟩
    · rw [if_neg hb] at h ⊢
      cases hd : numD (b :: t) with
      | none => rw [hd] at h; cases h
      | some m =>
        rw [hd] at h
        obtain ⟨k1, k2, k3⟩ := key _ _ hd
        have h43 : ¬ (b == 43) = true := by
          intro e
          rw [beq_iff_eq] at e
          have := k3 b (List.mem_cons_self ..)
          rw [e] at this
          exact absurd this (by decide)
        rw [if_neg h43, k1]
        exact ⟨h, by omega⟩
theorem dec_bound : ∀ (l : List UInt8) (acc n : Nat), decFrom acc l = some n → n < (acc + 1) * 10 ^ l.length
  | [], acc, n, h => by cases h; simp
  | b :: t, acc, n, h => by
    simp only [decFrom] at h
    cases hd : digitVal b with
    | none => rw [hd] at h; cases h
    | some d =>
      rw [hd] at h
      have hd9 : d ≤ 9 := by
        unfold digitVal at hd
        split at hd
        · cases hd; omega
        · cases hd
      have := dec_bound t _ n h
      rw [List.length_cons, Nat.pow_succ]
      calc n < (acc * 10 + d + 1) * 10 ^ t.length := this
        _ ≤ ((acc + 1) * 10) * 10 ^ t.length := Nat.mul_le_mul_right _ (by omega)
        _ = (acc + 1) * (10 ^ t.length * 10) := by rw [Nat.mul_assoc, Nat.mul_comm 10]
theorem num_bound {s : List UInt8} {n : Int} (h : numL s = some n) : -1000000 < n ∧ n < 1000000 := by
  have key : ∀ ds m, numD ds = some m → m < 1000000 := by
    intro ds m hd
    unfold numD at hd
    split at hd
    · cases hd
    · rename_i hc
      have hl : ds.length ≤ 6 := by
        rcases Nat.lt_or_ge 6 ds.length with h7 | h7
        · exact absurd (by rw [Nat.ble_eq_true_of_le (show 7 ≤ ds.length from h7), Bool.or_true, Bool.true_or]) hc
        · exact h7
      have := dec_bound ds 0 m hd
      have h2 : 10 ^ ds.length ≤ 10 ^ 6 := Nat.pow_le_pow_right (by omega) hl
      omega
  cases s with
  | nil => cases h
  | cons b t =>
    rw [numL_cons] at h
    by_cases hb : (b == 45) = true
    · rw [if_pos hb] at h
      cases hd : numD t with
      | none => rw [hd] at h; cases h
      | some m => rw [hd] at h; have := key _ _ hd; have h' : -(m : Int) = n := Option.some.inj h; omega
    · rw [if_neg hb] at h
      cases hd : numD (b :: t) with
      | none => rw [hd] at h; cases h
      | some m => rw [hd] at h; have := key _ _ hd; have h' : (m : Int) = n := Option.some.inj h; omega
/-- The digits' cutset. -/
def digSet : List UInt8 := [48, 49, 50, 51, 52, 53, 54, 55, 56, 57]
theorem digSet_c (b : UInt8) : digSet.contains b = dgC b := by
  unfold digSet dgC
  rw [Bool.eq_iff_iff, List.contains_iff_mem, Bool.and_eq_true, Nat.ble_eq, Nat.ble_eq]
  simp only [List.mem_cons, List.not_mem_nil, or_false]
  constructor
  · rintro (h | h | h | h | h | h | h | h | h | h) <;> subst h <;> decide
  · intro h
    have hb : b.toNat = 48 ∨ b.toNat = 49 ∨ b.toNat = 50 ∨ b.toNat = 51 ∨ b.toNat = 52 ∨ b.toNat = 53 ∨ b.toNat = 54 ∨ b.toNat = 55 ∨ b.toNat = 56 ∨ b.toNat = 57 := by omega
    have e : ∀ k : UInt8, b.toNat = k.toNat → b = k := fun k hk => UInt8.toNat.inj hk
    rcases hb with h | h | h | h | h | h | h | h | h | h
    · exact .inl (e 48 h)
    · exact .inr (.inl (e 49 h))
    · exact .inr (.inr (.inl (e 50 h)))
    · exact .inr (.inr (.inr (.inl (e 51 h))))
    · exact .inr (.inr (.inr (.inr (.inl (e 52 h)))))
    · exact .inr (.inr (.inr (.inr (.inr (.inl (e 53 h))))))
    · exact .inr (.inr (.inr (.inr (.inr (.inr (.inl (e 54 h)))))))
    · exact .inr (.inr (.inr (.inr (.inr (.inr (.inr (.inl (e 55 h))))))))
    · exact .inr (.inr (.inr (.inr (.inr (.inr (.inr (.inr (.inl (e 56 h)))))))))
    · exact .inr (.inr (.inr (.inr (.inr (.inr (.inr (.inr (.inr (e 57 h)))))))))
theorem dropW_all {p : UInt8 → Bool} : ∀ {l : List UInt8}, l.dropWhile p = [] ↔ l.all p = true
  | [] => by simp
  | b :: t => by
    cases hb : p b with
    | true => rw [List.dropWhile_cons_of_pos hb, List.all_cons, hb, Bool.true_and]; exact dropW_all
    | false => rw [List.dropWhile_cons_of_neg (by simp [hb]), List.all_cons, hb]; simp
theorem trim_dig (l : List UInt8) : trimS l digSet = [] ↔ l.all dgC = true := by
  have hp : (fun b => digSet.contains b) = dgC := funext digSet_c
  unfold trimS trimLeftS trimRightS
  rw [hp, dropW_all]
  constructor
  · intro h
    have h' : l.reverse.dropWhile dgC = [] := by
      rcases hc : l.reverse.dropWhile dgC with _ | ⟨b, t⟩
      · rfl
      · have hb : dgC b = false := by
          have := List.head?_dropWhile_not dgC l.reverse
          rw [hc] at this
          simpa using this
        rw [hc] at h
        rw [List.all_reverse, List.all_cons, hb] at h
        simp at h
    rw [dropW_all, List.all_reverse] at h'
    exact h'
  · intro h
    have h' : l.reverse.dropWhile dgC = [] := dropW_all.2 (by rw [List.all_reverse]; exact h)
    rw [h']; rfl
end Go.Proofs.YtgpdpalhkkjmiaaGreatDoor

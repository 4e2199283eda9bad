/- Merged: Flo Cnt FnL. -/
import Derived.Laws.ComplexArith
import Derived.WalkLawsBesides
import Derived.Test.YtofikfkgiblblaaGreatDoorQ12
import Derived.Test.YtofikfkgiblblaaGreatDoorQ23
/- Whole numbers as floats of 64 bits: what is written is read again; sums; comparisons; back to whole numbers. No program in sight. -/
namespace Go.Tt
set_option linter.unusedVariables false
set_option linter.unusedSimpArgs false
set_option linter.unusedVariables false
set_option linter.unusedSimpArgs false
open Ieee
theorem log2_mul_pow {N : Nat} (h : N ≠ 0) (k : Nat) : (N * 2 ^ k).log2 = N.log2 + k := by
  have hp : 0 < 2 ^ k := Nat.two_pow_pos k
  have h' : N * 2 ^ k ≠ 0 := Nat.mul_ne_zero h (Nat.ne_of_gt hp)
  apply Nat.le_antisymm
  · have := (Nat.log2_lt h' (k := N.log2 + k + 1)).2 (by
      rw [show N.log2 + k + 1 = (N.log2 + 1) + k by omega, Nat.pow_add]
      exact Nat.mul_lt_mul_of_pos_right Nat.lt_log2_self hp)
    omega
  · refine (Nat.le_log2 h').2 ?_
    rw [Nat.pow_add]
    exact Nat.mul_le_mul_right _ (Nat.log2_self_le h)
theorem cut_even (neg : Bool) {N : Nat} (h : N ≠ 0) (k : Nat) : Toward.even.cut neg (N * 2 ^ k) k = N := by
  unfold Toward.cut
  have e : min k ((N * 2 ^ k).log2 + 2) = k := by rw [log2_mul_pow h]; omega
  have hp : 0 < 2 ^ k := Nat.two_pow_pos k
  simp only [e, Nat.one_shiftLeft, Nat.mul_div_cancel _ hp, Nat.mul_mod_left]
  have h0 : ¬ 2 ^ k < 2 * 0 := by omega
  have h1 : ¬ 2 ^ k = 0 := by omega
  simp [h1]
theorem cut_zero (neg : Bool) {N : Nat} (h : N ≠ 0) (k : Nat) : Toward.zero.cut neg (N * 2 ^ k) k = N := by
  unfold Toward.cut
  have e : min k ((N * 2 ^ k).log2 + 2) = k := by rw [log2_mul_pow h]; omega
  have hp : 0 < 2 ^ k := Nat.two_pow_pos k
  simp only [e, Nat.one_shiftLeft, Nat.mul_div_cancel _ hp]
  simp
theorem cut_zero0 (neg : Bool) (k : Nat) : Toward.zero.cut neg 0 k = 0 := by
  unfold Toward.cut
  simp
/-- The rung of a whole number below 2^53. -/
def rung (N : Nat) : Nat := (N.log2 + 1022) * 2 ^ 52 + N * 2 ^ (52 - N.log2)
theorem log_lt {N : Nat} (h0 : N ≠ 0) (h : N < 2 ^ 53) : N.log2 ≤ 52 := by
  have := (Nat.log2_lt h0 (k := 53)).2 h
  omega
theorem rung_bd {N : Nat} (h0 : N ≠ 0) (h : N < 2 ^ 53) : 2 ^ 52 ≤ N * 2 ^ (52 - N.log2) ∧ N * 2 ^ (52 - N.log2) < 2 ^ 53 := by
  have hl := log_lt h0 h
  constructor
  · calc 2 ^ 52 = 2 ^ N.log2 * 2 ^ (52 - N.log2) := by rw [← Nat.pow_add]; congr 1; omega
      _ ≤ N * 2 ^ (52 - N.log2) := Nat.mul_le_mul_right _ (Nat.log2_self_le h0)
  · calc N * 2 ^ (52 - N.log2) < 2 ^ (N.log2 + 1) * 2 ^ (52 - N.log2) := Nat.mul_lt_mul_of_pos_right Nat.lt_log2_self (Nat.two_pow_pos _)
      _ = 2 ^ 53 := by rw [← Nat.pow_add]; congr 1; omega
theorem near_exact (neg : Bool) {N : Nat} (h0 : N ≠ 0) (h : N < 2 ^ 53) (j : Nat) : double.nearest neg (N * 2 ^ j) (-(j : Int)) = double.word neg (rung N) := by
  have hp : 0 < 2 ^ j := Nat.two_pow_pos j
  have h' : N * 2 ^ j ≠ 0 := Nat.mul_ne_zero h0 (Nat.ne_of_gt hp)
  have hl := log_lt h0 h
  have hb := rung_bd h0 h
  unfold Format.nearest
  rw [if_neg h']
  have e1 : max (-(j : Int) + ((N * 2 ^ j).log2 : Nat) - (double.fractionBits : Nat)) double.leastPlace = (N.log2 : Int) - 52 := by
    rw [log2_mul_pow h0]
    show max (-(j : Int) + ((N.log2 + j : Nat) : Int) - ((52 : Nat) : Int)) (2 - 2 ^ (11 - 1) - ((52 : Nat) : Int)) = _
    omega
  simp only [e1]
  have e2 : Toward.even.cut neg ((N * 2 ^ j) <<< (-(j : Int) - ((N.log2 : Int) - 52)).toNat) (((N.log2 : Int) - 52) - -(j : Int)).toNat = N * 2 ^ (52 - N.log2) := by
    by_cases hj : j ≤ 52 - N.log2
    · rw [show (-(j : Int) - ((N.log2 : Int) - 52)).toNat = 52 - N.log2 - j by omega, show (((N.log2 : Int) - 52) - -(j : Int)).toNat = 0 by omega, Nat.shiftLeft_eq, Nat.mul_assoc, ← Nat.pow_add, show j + (52 - N.log2 - j) = 52 - N.log2 by omega]
      have := cut_even neg (N := N * 2 ^ (52 - N.log2)) (by omega) 0
      rwa [Nat.pow_zero, Nat.mul_one] at this
    · rw [show (-(j : Int) - ((N.log2 : Int) - 52)).toNat = 0 by omega, show (((N.log2 : Int) - 52) - -(j : Int)).toNat = j - (52 - N.log2) by omega, Nat.shiftLeft_zero]
      have := cut_even neg (N := N * 2 ^ (52 - N.log2)) (by omega) (j - (52 - N.log2))
      rwa [Nat.mul_assoc, ← Nat.pow_add, show 52 - N.log2 + (j - (52 - N.log2)) = j by omega] at this
  rw [e2]
  have e3 : (((N.log2 : Int) - 52) - double.leastPlace).toNat = N.log2 + 1022 := by
    show (((N.log2 : Int) - 52) - (2 - 2 ^ (11 - 1) - ((52 : Nat) : Int))).toNat = _
    omega
  rw [e3]
  have e4 : double.binade = 2 ^ 52 := rfl
  have e5 : double.infRung = 2047 * 2 ^ 52 := rfl
  rw [e4, e5]
  congr 1
  show min ((N.log2 + 1022) * 2 ^ 52 + N * 2 ^ (52 - N.log2)) (2047 * 2 ^ 52) = rung N
  unfold rung
  omega
theorem read_word (neg : Bool) {N : Nat} (h0 : N ≠ 0) (h : N < 2 ^ 53) : double.read (double.word neg (rung N)) = .number neg (N * 2 ^ (52 - N.log2)) (-((52 - N.log2 : Nat) : Int)) := by
  have hl := log_lt h0 h
  obtain ⟨hb1, hb2⟩ := rung_bd h0 h
  have hr : rung N = (N.log2 + 1022) * 2 ^ 52 + N * 2 ^ (52 - N.log2) := rfl
  have s1 : double.signWeight = 2 ^ 63 := rfl
  have s2 : double.binade = 2 ^ 52 := rfl
  have s3 : double.infRung = 2047 * 2 ^ 52 := rfl
  generalize hX : N * 2 ^ (52 - N.log2) = X at *
  generalize hL : N.log2 = L at *
  have s4 : double.leastPlace = -1074 := by decide
  unfold Format.read Format.word
  simp only [s1, s2, s3, s4, hr]
  have w1 : (if neg then 2 ^ 63 + ((L + 1022) * 2 ^ 52 + X) else (L + 1022) * 2 ^ 52 + X) / 2 ^ 63 % 2 = if neg then 1 else 0 := by
    cases neg <;> simp only [if_true, if_false, Bool.false_eq_true] <;> omega
  have w2 : (if neg then 2 ^ 63 + ((L + 1022) * 2 ^ 52 + X) else (L + 1022) * 2 ^ 52 + X) % 2 ^ 63 = (L + 1022) * 2 ^ 52 + X := by
    cases neg <;> simp only [if_true, if_false, Bool.false_eq_true] <;> omega
  rw [w1, w2]
  rw [if_neg (by omega), if_pos (by omega)]
  have w3 : ((if neg then 1 else 0) == 1) = neg := by cases neg <;> rfl
  have w4 : 2 ^ 52 + ((L + 1022) * 2 ^ 52 + X) % 2 ^ 52 = X := by omega
  have w5 : ((L + 1022) * 2 ^ 52 + X) / 2 ^ 52 - 1 = L + 1022 := by omega
  rw [w3, w4, w5, show (-1074 : Int) + ((L + 1022 : Nat) : Int) = -((52 - L : Nat) : Int) by omega]
/-- A whole number as a float. -/
def fl (n : Int) : Nat := FloatKind.f64.nearest n
theorem fl_def (n : Int) : fl n = double.nearest (decide (n < 0)) n.natAbs 0 := rfl
theorem fl_zero : fl 0 = double.word false 0 := rfl
theorem fl_of {n : Int} (h0 : n ≠ 0) (h : n.natAbs < 2 ^ 53) : fl n = double.word (decide (n < 0)) (rung n.natAbs) := by
  have := near_exact (decide (n < 0)) (N := n.natAbs) (by omega) h 0
  rw [fl_def, ← this, Nat.pow_zero, Nat.mul_one]
  rfl
theorem fl_read {n : Int} (h : n.natAbs < 2 ^ 53) : ∃ k : Nat, double.read (fl n) = .number (decide (n < 0)) (n.natAbs * 2 ^ k) (-(k : Int)) := by
  by_cases h0 : n = 0
  · subst h0
    have key : ∀ k : Nat, k = 1074 → double.read (fl 0) = .number (decide ((0 : Int) < 0)) ((0 : Int).natAbs * 2 ^ k) (-(k : Int)) := by
      intro k hk
      rw [show (0 : Int).natAbs = 0 from rfl, Nat.zero_mul]
      subst hk
      rfl
    exact ⟨1074, key 1074 rfl⟩
  · exact ⟨52 - n.natAbs.log2, by rw [fl_of h0 h]; exact read_word _ (by omega) h⟩
theorem signed_of (n : Int) (k u : Nat) : signed (decide (n < 0)) (n.natAbs * 2 ^ k) u = n * 2 ^ (k + u) := by
  unfold signed
  rw [Nat.shiftLeft_eq, Nat.mul_assoc, ← Nat.pow_add]
  by_cases h : n < 0
  · simp only [h, decide_true, if_true]
    rw [Int.natCast_mul, Int.natCast_pow, ← Int.neg_mul]
    congr 1
    omega
  · simp only [h, decide_false, Bool.false_eq_true, if_false]
    rw [Int.natCast_mul, Int.natCast_pow]
    congr 1
    omega
theorem fl_write {n : Int} (h : n.natAbs < 2 ^ 53) (b : Bool) (hb : b = decide (n < 0)) (k : Nat) : double.write (.number b (n.natAbs * 2 ^ k) (-(k : Int))) = fl n := by
  subst hb
  show double.nearest _ _ _ = _
  by_cases h0 : n = 0
  · subst h0
    simp [Format.nearest, fl_zero]
  · rw [near_exact _ (by omega) h, fl_of h0 h]
theorem mul_pow_lt {n : Int} (k : Nat) : (n * 2 ^ k < 0) ↔ n < 0 := by
  have hp : (0 : Int) < 2 ^ k := Int.pow_pos (by decide)
  constructor
  · intro h
    rcases Int.lt_or_le n 0 with h1 | h1
    · exact h1
    · have := Int.mul_nonneg h1 (Int.le_of_lt hp); omega
  · intro h
    exact Int.mul_neg_of_neg_of_pos h hp
theorem natAbs_mul_pow (n : Int) (k : Nat) : (n * 2 ^ k).natAbs = n.natAbs * 2 ^ k := by
  rw [Int.natAbs_mul, Int.natAbs_pow]; rfl
theorem fl_add {a b : Int} (ha : a.natAbs < 2 ^ 53) (hb : b.natAbs < 2 ^ 53) (hab : (a + b).natAbs < 2 ^ 53) : double.add (fl a) (fl b) = some (fl (a + b)) := by
  obtain ⟨k, hk⟩ := fl_read ha
  obtain ⟨l, hl⟩ := fl_read hb
  unfold Format.add
  rw [hk, hl]
  have key : ∀ m : Nat, k ≤ m → l ≤ m → min (-(k : Int)) (-(l : Int)) = -(m : Int) → (Datum.sum (.number (decide (a < 0)) (a.natAbs * 2 ^ k) (-(k : Int))) (.number (decide (b < 0)) (b.natAbs * 2 ^ l) (-(l : Int)))).map double.write = some (fl (a + b)) := by
    intro m h1 h2 h3
    unfold Datum.sum
    simp only [h3, Option.map_some, Option.some.injEq]
    rw [show (-(k : Int) - -(m : Int)).toNat = m - k by omega, show (-(l : Int) - -(m : Int)).toNat = m - l by omega, signed_of, signed_of, show k + (m - k) = m by omega, show l + (m - l) = m by omega, ← Int.add_mul, natAbs_mul_pow]
    refine fl_write hab _ ?_ m
    have hp : (2 : Int) ^ m ≠ 0 := Int.ne_of_gt (Int.pow_pos (by decide))
    by_cases h0 : a + b = 0
    · rw [h0, Int.zero_mul, if_pos rfl]
      have : ¬ (a < 0 ∧ b < 0) := by omega
      rw [← Bool.decide_and]
      simp [this]
    · rw [if_neg (by intro e; rcases Int.mul_eq_zero.1 e with e | e <;> contradiction)]
      simp only [mul_pow_lt]
  by_cases hkl : k ≤ l
  · exact key l hkl (Nat.le_refl _) (by omega)
  · exact key k (Nat.le_refl _) (by omega) (by omega)
theorem fl_order {a b : Int} (ha : a.natAbs < 2 ^ 53) (hb : b.natAbs < 2 ^ 53) : double.order (fl a) (fl b) = some (compare a b) := by
  obtain ⟨k, hk⟩ := fl_read ha
  obtain ⟨l, hl⟩ := fl_read hb
  unfold Format.order
  rw [hk, hl]
  have key : ∀ m : Nat, k ≤ m → l ≤ m → min (-(k : Int)) (-(l : Int)) = -(m : Int) → Datum.order (.number (decide (a < 0)) (a.natAbs * 2 ^ k) (-(k : Int))) (.number (decide (b < 0)) (b.natAbs * 2 ^ l) (-(l : Int))) = some (compare a b) := by
    intro m h1 h2 h3
    unfold Datum.order
    simp only [h3, Option.some.injEq]
    rw [show (-(k : Int) - -(m : Int)).toNat = m - k by omega, show (-(l : Int) - -(m : Int)).toNat = m - l by omega, signed_of, signed_of, show k + (m - k) = m by omega, show l + (m - l) = m by omega]
    have hp : (0 : Int) < 2 ^ m := Int.pow_pos (by decide)
    have c1 : a * 2 ^ m < b * 2 ^ m ↔ a < b := ⟨fun h => Int.lt_of_mul_lt_mul_right h (Int.le_of_lt hp), fun h => Int.mul_lt_mul_of_pos_right h hp⟩
    have c2 : a * 2 ^ m = b * 2 ^ m ↔ a = b := ⟨fun h => Int.eq_of_mul_eq_mul_right (Int.ne_of_gt hp) h, fun h => by rw [h]⟩
    show compareOfLessAndEq _ _ = compareOfLessAndEq _ _
    unfold compareOfLessAndEq
    simp only [c1, c2]
  by_cases hkl : k ≤ l
  · exact key l hkl (Nat.le_refl _) (by omega)
  · exact key k (Nat.le_refl _) (by omega) (by omega)
theorem fl_toInt {n : Int} (h : n.natAbs < 2 ^ 53) : (FloatKind.f64.decode (fl n)).toInt .zero = some n := by
  obtain ⟨k, hk⟩ := fl_read h
  show (double.read (fl n)).toInt .zero = some n
  rw [hk]
  unfold Datum.toInt Datum.integral
  simp only
  rw [show (-(k : Int)).toNat = 0 by omega, Nat.shiftLeft_zero, show (- -(k : Int)).toNat = k by omega]
  have e : Toward.zero.cut (decide (n < 0)) (n.natAbs * 2 ^ k) k = n.natAbs := by
    by_cases h0 : n.natAbs = 0
    · rw [h0, Nat.zero_mul]; exact cut_zero0 _ _
    · exact cut_zero _ h0 k
  rw [e]
  have := signed_of n 0 0
  rw [Nat.pow_zero, Nat.mul_one] at this
  simp [this]
/-- The sum of two whole numbers of at most 2^52: what is asked of it. -/
theorem fl_sum {a b : Int} (ha : -4503599627370496 ≤ a ∧ a ≤ 4503599627370496) (hb : -4503599627370496 ≤ b ∧ b ≤ 4503599627370496) :
    ∃ z, FloatKind.f64.format.add (fl a) (fl b) = some z ∧ FloatKind.f64.format.order z 14064741636278059008 = some (compare (a + b) (-4503599627370496)) ∧ FloatKind.f64.format.order z 4841369599423283200 = some (compare (a + b) 4503599627370496) ∧
      (-4503599627370496 ≤ a + b → a + b ≤ 4503599627370496 → (FloatKind.f64.decode z).toInt .zero = some (a + b)) := by
  have c1 : (14064741636278059008 : Nat) = fl (-4503599627370496) := by decide +kernel
  have c2 : (4841369599423283200 : Nat) = fl 4503599627370496 := by decide +kernel
  by_cases h : (a + b).natAbs < 2 ^ 53
  · refine ⟨fl (a + b), fl_add (by omega) (by omega) h, ?_, ?_, fun _ _ => fl_toInt h⟩
    · rw [c1]; exact fl_order h (by decide)
    · rw [c2]; exact fl_order h (by decide)
  · have hc : (a = 4503599627370496 ∧ b = 4503599627370496) ∨ (a = -4503599627370496 ∧ b = -4503599627370496) := by omega
    rcases hc with ⟨rfl, rfl⟩ | ⟨rfl, rfl⟩
    · exact ⟨4845873199050653696, by decide +kernel, by decide +kernel, by decide +kernel, fun _ h => by omega⟩
    · exact ⟨14069245235905429504, by decide +kernel, by decide +kernel, by decide +kernel, fun h _ => by omega⟩
theorem cmp_ge {n m : Int} : (compare n m == .gt || compare n m == .eq) = decide (m ≤ n) := by
  show (compareOfLessAndEq n m == .gt || compareOfLessAndEq n m == .eq) = _
  unfold compareOfLessAndEq
  by_cases h1 : n < m
  · rw [if_pos h1, decide_eq_false (by omega)]; rfl
  · rw [if_neg h1]
    by_cases h2 : n = m
    · rw [if_pos h2, decide_eq_true (by omega)]; rfl
    · rw [if_neg h2, decide_eq_true (by omega)]; rfl
theorem cmp_le {n m : Int} : (compare n m == .lt || compare n m == .eq) = decide (n ≤ m) := by
  show (compareOfLessAndEq n m == .lt || compareOfLessAndEq n m == .eq) = _
  unfold compareOfLessAndEq
  by_cases h1 : n < m
  · rw [if_pos h1, decide_eq_true (by omega)]; rfl
  · rw [if_neg h1]
    by_cases h2 : n = m
    · rw [if_pos h2, decide_eq_true (by omega)]; rfl
    · rw [if_neg h2, decide_eq_false (by omega)]; rfl
end Go.Tt

/- Layers 6 and 8: sums of pairs; count.Add. -/
namespace Go.Proofs.YtofikfkgiblblaaGreatDoor
set_option linter.unusedVariables false
set_option linter.unusedSimpArgs false
open Go.RowKit Go.Lib Go.Tt Go.Shelf
/-- May a pair be? -/
def pairMay (p : Int × Int) : Bool := decide ((-4503599627370496 ≤ p.1 ∧ p.1 ≤ 4503599627370496) ∧ -4503599627370496 ≤ p.2 ∧ p.2 ≤ 4503599627370496)
def inPart (n : Int) : Bool := decide (-4503599627370496 ≤ n ∧ n ≤ 4503599627370496)
set_option maxRecDepth 100000 in
theorem part_ok {z : Nat} {n : Int} (h1 : FloatKind.f64.format.order z 14064741636278059008 = some (compare n (-4503599627370496))) (h2 : FloatKind.f64.format.order z 4841369599423283200 = some (compare n 4503599627370496)) (w : World) :
    Calls Tryz.prog 160 #[.float .f64 z] w fun e w' => e = .returned (.bool (inPart n)) ∧ w = w' := by
  obtain ⟨B, hB⟩ : ∃ B, Hid (B = inPart n) := ⟨_, Lib.hid rfl⟩
  rw [← hB.out]
  go_enter Tryz.func160, Tryz.ntmps160
  go_wp2_with (fail)
  have e1 := cmp_ge (n := n) (m := -4503599627370496)
  have e2 := cmp_le (n := n) (m := 4503599627370496)
  all_goals go_ret
  all_goals refine ⟨congrArg (fun b => Ending.returned (Value.bool b)) ?_, rfl⟩
  all_goals rw [hB.out]
  all_goals unfold inPart
  all_goals rw [Bool.decide_and, ← cmp_ge, ← cmp_le]
  all_goals first | rfl | (simp_all) 
set_option maxRecDepth 100000 in
theorem number_yes {p : Int × Int} (h : pairMay p = true) (w : World) :
    Calls Tryz.prog 83 #[.agg #[.int .i64 p.1, .int .i64 p.2]] w fun e w' => e = .returned (.tuple #[.complex .f64 (fl p.1) (fl p.2), .bool true]) ∧ Frm No w w' := by
  have h' := of_decide_eq_true h
  have m1 : ¬ 4503599627370496 < max p.1 p.2 := by omega
  have m2 : ¬ min p.1 p.2 < -4503599627370496 := by omega
  clear h h'
  go_enter Tryz.func83, Tryz.ntmps83
  go_wp2_with (fail)
  go_ret2
  exact ⟨rfl, (Frm.refl No w).al _⟩
set_option maxRecDepth 100000 in
theorem number_no {p : Int × Int} (h : pairMay p = false) (w : World) :
    Calls Tryz.prog 83 #[.agg #[.int .i64 p.1, .int .i64 p.2]] w fun e w' => e = .returned (.tuple #[.complex .f64 0 0, .bool false]) ∧ Frm No w w' := by
  have h' := of_decide_eq_false h
  by_cases m1 : 4503599627370496 < max p.1 p.2
  · clear h h'
    go_enter Tryz.func83, Tryz.ntmps83
    go_wp2_with (fail)
    go_ret2
    exact ⟨rfl, (Frm.refl No w).al _⟩
  · have m2 : min p.1 p.2 < -4503599627370496 := by omega
    clear h h'
    go_enter Tryz.func83, Tryz.ntmps83
    go_wp2_with (fail)
    go_ret2
    exact ⟨rfl, (Frm.refl No w).al _⟩
set_option maxRecDepth 100000 in
theorem gaussMay_ok (p : Int × Int) (w : World) :
    Calls Tryz.prog 35 #[.agg #[.int .i64 p.1, .int .i64 p.2]] w fun e w' => e = .returned (.bool (pairMay p)) ∧ Frm No w w' := by
  rcases h : pairMay p with _ | _
  · have hc := Lib.hid (fun W => number_no h W)
    clear h
    go_enter Tryz.func35, Tryz.ntmps35
    go_wp2_with (fail)
    refine (hc.out _).mono ?_
    rintro e w1 ⟨rfl, f1⟩
    go_wp2_with (fail)
    go_ret
    exact ⟨rfl, ((Frm.refl No w).al _).trans f1⟩
  · have hc := Lib.hid (fun W => number_yes h W)
    clear h
    go_enter Tryz.func35, Tryz.ntmps35
    go_wp2_with (fail)
    refine (hc.out _).mono ?_
    rintro e w1 ⟨rfl, f1⟩
    go_wp2_with (fail)
    go_ret
    exact ⟨rfl, ((Frm.refl No w).al _).trans f1⟩
set_option maxRecDepth 100000 in
theorem gmay_ok {z1 z2 : Nat} {n1 n2 : Int} (h1 : FloatKind.f64.format.order z1 14064741636278059008 = some (compare n1 (-4503599627370496))) (h2 : FloatKind.f64.format.order z1 4841369599423283200 = some (compare n1 4503599627370496))
    (h3 : FloatKind.f64.format.order z2 14064741636278059008 = some (compare n2 (-4503599627370496))) (h4 : FloatKind.f64.format.order z2 4841369599423283200 = some (compare n2 4503599627370496)) (w : World) :
    Calls Tryz.prog 135 #[.complex .f64 z1 z2] w fun e w' => e = .returned (.bool (inPart n1 && inPart n2)) ∧ w = w' := by
  have c1 := Lib.hid (fun W => part_ok h1 h2 W)
  have c2 := Lib.hid (fun W => part_ok h3 h4 W)
  clear h1 h2 h3 h4
  generalize inPart n1 = p at c1 ⊢
  generalize inPart n2 = q at c2 ⊢
  cases p with
  | false =>
    go_enter Tryz.func135, Tryz.ntmps135
    go_wp2_with (fail)
    refine (c1.out _).mono ?_
    rintro e w' ⟨rfl, rfl⟩
    go_wp2_with (fail)
    go_ret
    exact ⟨rfl, rfl⟩
  | true =>
    go_enter Tryz.func135, Tryz.ntmps135
    go_wp2_with (fail)
    refine (c1.out _).mono ?_
    rintro e w' ⟨rfl, rfl⟩
    go_wp2_with (fail)
    refine (c2.out _).mono ?_
    rintro e w' ⟨rfl, rfl⟩
    go_wp2_with (fail)
    go_ret
    exact ⟨rfl, rfl⟩
set_option maxRecDepth 100000 in
theorem gpair_ok {z1 z2 : Nat} {n1 n2 : Int} (h1 : (FloatKind.f64.decode z1).toInt .zero = some n1) (h2 : (FloatKind.f64.decode z2).toInt .zero = some n2) (b1 : -4503599627370496 ≤ n1 ∧ n1 ≤ 4503599627370496) (b2 : -4503599627370496 ≤ n2 ∧ n2 ≤ 4503599627370496) (w : World) :
    Calls Tryz.prog 136 #[.complex .f64 z1 z2] w fun e w' => e = .returned (.agg #[.int .i64 n1, .int .i64 n2]) ∧ Frm No w w' := by
  obtain ⟨b1, b3⟩ := b1
  obtain ⟨b2, b4⟩ := b2
  have v1 : floatToIntVal .f64 z1 .i64 = some n1 := by unfold floatToIntVal; simp only [h1]; rw [if_pos]; exact ⟨by show -9223372036854775808 ≤ n1; omega, by show n1 ≤ 9223372036854775807; omega⟩
  have v2 : floatToIntVal .f64 z2 .i64 = some n2 := by unfold floatToIntVal; simp only [h2]; rw [if_pos]; exact ⟨by show -9223372036854775808 ≤ n2; omega, by show n2 ≤ 9223372036854775807; omega⟩
  have r1 := fun W => run_convert_float_int (P := Tryz.prog) W 150 3 .f64 .i64 z1 n1 (by rw [Tryz.underlying150]; rfl) Tryz.underlying3 v1
  have r2 := fun W => run_convert_float_int (P := Tryz.prog) W 150 3 .f64 .i64 z2 n2 (by rw [Tryz.underlying150]; rfl) Tryz.underlying3 v2
  clear h1 h2 v1 v2
  go_enter Tryz.func136, Tryz.ntmps136
  go_wp2_with (fail)
  refine bodyPost_ret (v := .agg #[.int .i64 n1, .int .i64 n2]) (by simp [results, Tryz.results136, go_sem, *]) rfl ?_
  exact ⟨rfl, (Frm.refl No w).al _⟩
end Go.Proofs.YtofikfkgiblblaaGreatDoor

/- Lists: slices.IndexFunc at elements (printed by elemgen.py). -/
namespace Go.Proofs.YtofikfkgiblblaaGreatDoor
set_option linter.unusedVariables false
set_option linter.unusedSimpArgs false
open Go.RowKit Go.Lib Go.Tt
/-- A function value that tells p of an entry. -/
def PredOkL (w : World) (g : Nat) (lb : Array Value) (p : El → Bool) : Prop :=
  ∀ (W : World) (x : El), Frm No w W → Calls Tryz.prog g (#[.agg #[.int .i64 x.1, .int .i64 x.2.1, .int .i64 x.2.2.1, .string x.2.2.2.1, .bool x.2.2.2.2]] ++ lb) W fun e w' => e = .returned (.bool (p x)) ∧ Frm No W w'
/-- What IndexFunc tells. -/
def idxFL (l : List El) (p : El → Bool) : Int := if l.findIdx p < l.length then l.findIdx p else -1
set_option maxRecDepth 100000 in
theorem indexFuncL_ok {w : World} {a : Option Addr} {n c : Nat} {l : List El} (h : RdS w eEl (.slice a n c) l) {g : Nat} {lb : Array Value} {p : El → Bool} (hp : PredOkL w g lb p)
    (eg : ∀ args w, (callFunc g args).run Tryz.prog w = .ok (.enter g args) w) :
    Calls Tryz.prog 140 #[.slice a n c, .func (.func g) #[] lb] w fun e w' => e = .returned (.int .i64 (idxFL l p)) ∧ Frm No w w' := by
  obtain ⟨hn, hc1, hc2, -⟩ := h.facts
  unfold maxLen at hc2
  have HN := Lib.hid hn
  have HP := Lib.hid hp
  clear hn hp
  go_enter Tryz.func140, Tryz.ntmps140
  go_wp2
  go_loopg [5, 8] (n + 1) (fun gg _ iv wr => ∃ (i : Nat), iv = .int .i64 i ∧ i ≤ n ∧ gg = n - i + 1 ∧ Frm No w wr ∧ ∀ j (hj : j < l.length), j < i → p l[j] = false)
  case atStart => exact ⟨0, rfl, Nat.zero_le _, by omega, Frm.refl _ _, fun j hj h => by omega⟩
  case round =>
    obtain ⟨i, rfl, hi, hg, f, h1⟩ := hrel
    have hG := Lib.hid hg
    have H1 := Lib.hid h1
    clear hg h1
    by_cases hlt : i < n
    · have l1 : i < l.length := by rw [← HN.out]; exact hlt
      obtain ⟨b, off, rfl, hb, hc⟩ := (h.no f).at l1
      have e0 : wr.cell? ⟨b, off + i * 5, none⟩ = some (.int .i64 l[i].1) := hc 0 _ rfl
      have e1 : wr.cell? ⟨b, off + i * 5 + 1, none⟩ = some (.int .i64 l[i].2.1) := hc 1 _ rfl
      have e2 : wr.cell? ⟨b, off + i * 5 + 2, none⟩ = some (.int .i64 l[i].2.2.1) := hc 2 _ rfl
      have e3 : wr.cell? ⟨b, off + i * 5 + 3, none⟩ = some (.string l[i].2.2.2.1) := hc 3 _ rfl
      have e4 : wr.cell? ⟨b, off + i * 5 + 4, none⟩ = some (.bool l[i].2.2.2.2) := hc 4 _ rfl
      clear hc h
      have hcall := HP.out wr l[i] f
      obtain ⟨x, hx⟩ : ∃ x, Hid (x = l[i]) := ⟨_, Lib.hid rfl⟩
      rw [← hx.out] at e0 e1 e2 e3 e4 hcall
      cases hq : p x with
      | true =>
        rw [hq] at hcall
        have HQ := Lib.hid hq
        clear hq
        go_wp2_with (fail)
        refine hcall.mono ?_
        rintro e w' ⟨rfl, hb'⟩
        go_wp2
        go_ret
        refine ⟨?_, f.trans hb'⟩
        have e : l.findIdx p = i := by
          rw [List.findIdx_eq l1]
          exact ⟨by rw [← hx.out]; exact HQ.out, fun j hj => by simpa using H1.out j (by omega) hj⟩
        unfold idxFL
        rw [e, if_pos l1]; rfl
      | false =>
        rw [hq] at hcall
        have HQ := Lib.hid hq
        clear hq
        go_wp2_with (fail)
        refine hcall.mono ?_
        rintro e w' ⟨rfl, hb'⟩
        go_wp2
        go_roundg (n - (i + 1) + 1)
        case measure => have := hG.out; omega
        case rel =>
          refine ⟨i + 1, by go_num, by omega, rfl, f.trans hb', fun j hj hji => ?_⟩
          rcases Nat.lt_or_ge j i with h3 | h3
          · exact H1.out j hj h3
          · obtain rfl : j = i := by omega
            rw [← hx.out]; exact HQ.out
    · have hii : ¬ ((i : Int) < n) := by omega
      go_wp2
      go_ret
      refine ⟨?_, f⟩
      have e : l.findIdx p = l.length := List.findIdx_eq_length_of_false fun x hx => by
        obtain ⟨j, hj, rfl⟩ := List.getElem_of_mem hx
        simpa using H1.out j hj (by have := HN.out; omega)
      unfold idxFL
      rw [e, if_neg (Nat.lt_irrefl _)]; rfl
theorem idxFL_nonneg (l : List El) (p : El → Bool) : decide (0 ≤ idxFL l p) = l.any p := by
  unfold idxFL
  by_cases h : l.findIdx p < l.length
  · rw [if_pos h, decide_eq_true (by omega)]
    exact (List.any_eq_true.2 (by obtain h' := List.findIdx_lt_length.1 h; exact h')).symm
  · rw [if_neg h]
    have h' : ¬ ∃ x ∈ l, p x = true := fun e => h (List.findIdx_lt_length.2 e)
    have : l.any p = false := by
      rw [Bool.eq_false_iff]
      exact fun e => h' (List.any_eq_true.1 e)
    rw [this]
    rfl
end Go.Proofs.YtofikfkgiblblaaGreatDoor

/- Merged: Lex5. -/
import Derived.Test.YthaegncocdddfaaGreatDoorK14
import Derived.Test.YthaegncocdddfaaGreatDoorK19
import Derived.Test.YthaegncocdddfaaGreatDoorK28
/- The lexer, walked: sign, text (printed by gen_text.py). -/
namespace Go.Proofs.YthaegncocdddfaaGreatDoor
set_option linter.unusedVariables false
set_option linter.unusedSimpArgs false
set_option linter.unusedVariables false
set_option linter.unusedSimpArgs false
open Go.RowKit Go.Lib Go.Tt
def nOf : Value → Nat
  | .int _ i => i.toNat
  | _ => 0
theorem LxAt.keep {w w' : World} {lb : Nat} {s : ByteArray} {i : Nat} {out : List Tk} (h : LxAt w lb s i out) (f : Frm (fun k => w.heap.size ≤ k) w w') : LxAt w' lb s i out := by
  obtain ⟨a, n, c, hb, o⟩ := h
  have nb := lt_of_block hb
  exact ⟨a, n, c, f.obj hb (by omega), ((o.mono (G := fun k => lb < k ∧ k < w.heap.size) fun k hk h => ⟨h, hk⟩).frm f fun k hk e => by have e' : w.heap.size ≤ k := e; omega).mono fun k _ h => h.1⟩
/-- What stands behind a backslash gives. -/
def sgL (c : UInt8) : ByteArray := if c.toNat == 34 || c.toNat == 92 then ⟨#[c]⟩ else if c.toNat == 110 then ⟨#[10]⟩ else noTx
set_option maxRecDepth 100000 in
theorem sign_ok (c : UInt8) (w : World) : Calls Tryz.prog 105 #[.int .u8 c.toNat] w fun e w' => e = .returned (.string (sgL c)) ∧ Frm No w w' := by
  have conv : ∀ (W : World), W.heap[w.heap.size]? = some (.cells #[.int .u8 c.toNat] 5 (0, 0)) → (convert 58 9 (.slice (some ⟨w.heap.size, 0, none⟩) 1 1)).run Tryz.prog W = .ok (.string ⟨#[c]⟩) W := by
    intro W h
    exact conv_own (l := [c]) (B := 0) ⟨rfl, .inr ⟨w.heap.size, 1, _, rfl, Nat.zero_le _, h, Nat.le_refl _, by decide, rfl, rfl⟩⟩
  have C0 := conv _ (heap_alloc_new w (.cells #[.int .u8 c.toNat] 5 (0, 0)))
  clear conv
  unfold sgL
  by_cases h1 : c.toNat = 34
  · have b1 : ((c.toNat : Int) == 34) = true := by simp [h1]
    rw [if_pos (by simp [h1])]
    clear h1
    go_enter Tryz.func105, Tryz.ntmps105
    go_wp2
    go_ret
    exact ⟨rfl, (Frm.refl No w).al _⟩
  have b1 : ((c.toNat : Int) == 34) = false := by simp; omega
  by_cases h2 : c.toNat = 92
  · have b2 : ((c.toNat : Int) == 92) = true := by simp [h2]
    rw [if_pos (by simp [h2])]
    clear h2
    go_enter Tryz.func105, Tryz.ntmps105
    go_wp2
    go_ret
    exact ⟨rfl, (Frm.refl No w).al _⟩
  have b2 : ((c.toNat : Int) == 92) = false := by simp; omega
  rw [if_neg (by simp [h1, h2])]
  by_cases h3 : c.toNat = 110
  · have b3 : ((c.toNat : Int) == 110) = true := by simp [h3]
    rw [if_pos (by simp [h3])]
    clear h3
    go_enter Tryz.func105, Tryz.ntmps105
    go_wp2
    go_ret
    exact ⟨rfl, Frm.refl No w⟩
  · have b3 : ((c.toNat : Int) == 110) = false := by simp; omega
    rw [if_neg (by simp [h3])]
    go_enter Tryz.func105, Tryz.ntmps105
    go_wp2
    go_ret
    exact ⟨rfl, Frm.refl No w⟩
set_option maxRecDepth 100000 in
theorem gstring_new {w : World} {b : Nat} (hb : w.heap[b]? = some (.cells #[.pointer none, .slice none 0 0] 88 (0, 0))) :
    Calls Tryz.prog 28 #[.pointer (some ⟨b, 0, none⟩)] w fun e w' => e = .returned (.string ⟨#[]⟩) ∧ Frm No w w' := by
  have c1 : w.cell? ⟨b, 1, none⟩ = some (.slice none 0 0) := obj_cell hb 1
  have nb := lt_of_block hb
  have hSD : ∀ W, (Builtin.unsafeSliceData_ #[58] 117 #[.slice none 0 0]).run Tryz.prog W = .ok (.pointer none) W := fun W => rfl
  have hUS : ∀ W, (Builtin.unsafeString_ #[117, 3] 9 #[.pointer none, .int .i64 0]).run Tryz.prog W = .ok (.string ⟨#[]⟩) W := fun W => Any.unsafeString_none Tryz.lays169 Tryz.Builder_Extra_169 W none
  go_enter Tryz.func28, Tryz.ntmps28
  go_wp2_with (fail)
  refine wp_region_plan [([0, 1, 2, 3, 5, 6, 7, 8, 9, 4], [8]), ([10, 11], [])] 14 (by kernel_rfl) (by kernel_rfl) (by simp) ?_
  intro N hN
  simp only [wpSegs, List.map_cons, List.map_nil, List.getD_cons_zero, List.getD_cons_succ]
  go_wp2_with (fail)
  refine ⟨again_cons (again_of rfl rfl ?_) again_nil, ?_⟩
  · go_simp
  go_wp2_with (fail)
  go_ret
  exact ⟨rfl, Frm.drew No _⟩
/-- A text read: the token and its length. -/
def txT (n : Nat) : Option (List UInt8 × List UInt8) → Int ⊕ (Tk × Nat)
  | none => .inl 1301
  | some (x, r) => .inr (⟨2, ⟨x.toArray⟩, 0, 0⟩, n - r.length)
theorem txL_cons (c : UInt8) (r acc : List UInt8) (h1 : c.toNat ≠ 10) (h2 : acc.length ≤ 256) (h3 : c.toNat ≠ 34) (h4 : c.toNat ≠ 92) : txL (c :: r) acc = txL r (acc ++ [c]) := by
  have e1 : (c.toNat == 10 || Nat.ble 257 acc.length) = false := by
    rw [Bool.or_eq_false_iff]
    refine ⟨by simpa using h1, ?_⟩
    rcases h : Nat.ble 257 acc.length with _ | _
    · rfl
    · have := Nat.le_of_ble_eq_true h; omega
  rw [txL.eq_def]
  simp only [e1, Bool.false_eq_true, if_false]
  rw [if_neg (by simpa using h3), if_neg (by simpa using h4)]
theorem txL_stop (c : UInt8) (r acc : List UInt8) (h : c.toNat = 10 ∨ 256 < acc.length) : txL (c :: r) acc = none := by
  have e1 : (c.toNat == 10 || Nat.ble 257 acc.length) = true := by
    rcases h with h | h
    · simp [h]
    · rw [Nat.ble_eq_true_of_le h]; simp
  rw [txL.eq_def]
  simp only [e1, if_true]
theorem txL_end (c : UInt8) (r acc : List UInt8) (h2 : acc.length ≤ 256) (h3 : c.toNat = 34) : txL (c :: r) acc = some (acc, r) := by
  have e1 : (c.toNat == 10 || Nat.ble 257 acc.length) = false := by
    rw [Bool.or_eq_false_iff]
    refine ⟨by simp [h3], ?_⟩
    rcases h : Nat.ble 257 acc.length with _ | _
    · rfl
    · have := Nat.le_of_ble_eq_true h; omega
  rw [txL.eq_def]
  simp only [e1, Bool.false_eq_true, if_false]
  rw [if_pos (by simp [h3])]
theorem txL_esc (c : UInt8) (r acc : List UInt8) (h2 : acc.length ≤ 256) (h3 : c.toNat = 92) : txL (c :: r) acc = match r with
    | [] => none
    | d :: r' => if d.toNat == 34 || d.toNat == 92 then txL r' (acc ++ [d]) else if d.toNat == 110 then txL r' (acc ++ [10]) else none := by
  have e1 : (c.toNat == 10 || Nat.ble 257 acc.length) = false := by
    rw [Bool.or_eq_false_iff]
    refine ⟨by simp [h3], ?_⟩
    rcases h : Nat.ble 257 acc.length with _ | _
    · rfl
    · have := Nat.le_of_ble_eq_true h; omega
  rw [txL.eq_def]
  simp only [e1, Bool.false_eq_true, if_false]
  rw [if_neg (by simp [h3]), if_pos (by simp [h3])]
  cases r <;> rfl
set_option maxHeartbeats 8000000 in
set_option maxRecDepth 100000 in
theorem text_ok {w : World} {lb : Nat} {s : ByteArray} {i : Nat} {out : List Tk} (h : LxAt w lb s i out) (hi : i < s.size) (hs : s.size ≤ 65536) (hl : out.length ≤ 65536) :
    Calls Tryz.prog 88 #[.pointer (some ⟨lb, 0, none⟩)] w fun e w' => e = .returned (.int .i64 (lexR (txT (s.size - i) (txL (s.data.toList.drop (i + 1)) [])) i out).1) ∧ LxAt w' lb s (lexR (txT (s.size - i) (txL (s.data.toList.drop (i + 1)) [])) i out).2.1 (lexR (txT (s.size - i) (txL (s.data.toList.drop (i + 1)) [])) i out).2.2 ∧ Frm (fun k => lb ≤ k) w w' := by
  obtain ⟨R, hR⟩ : ∃ R, Hid (txL (s.data.toList.drop (i + 1)) [] = R) := ⟨_, Lib.hid rfl⟩
  rw [hR.out]
  obtain ⟨Z, hZ⟩ : ∃ Z, Hid (lexR (txT (s.size - i) R) i out = Z) := ⟨_, Lib.hid rfl⟩
  rw [hZ.out]
  have nlb : lb < w.heap.size := by obtain ⟨a, n, c, hb, -⟩ := h; exact lt_of_block hb
  have BTt : BT 88 := .inl rfl
  have fin : Hid (R = none → Z = (1301, i, out)) := Lib.hid (fun e => by rw [← hZ.out, e]; rfl)
  have hi5 : i ≤ 65536 := by omega
  have q1 : w.cell? ⟨lb, 1, none⟩ = some (.int .i64 i) := by obtain ⟨a, n, c, hb, -⟩ := h; exact obj_cell hb 1
  go_enter Tryz.func88, Tryz.ntmps88
  go_wp2_with (fail)
  refine jumps3
    (fun a wr => ∃ (j : Nat) (acc : List UInt8), (a.tmps.size = 82 ∧ a.defers = [] ∧ a.tmps.getD 0 undef = .pointer (some ⟨lb, 0, none⟩) ∧ a.tmps.getD 3 undef = .pointer (some ⟨w.heap.size, 0, none⟩) ∧ a.tmps.getD 5 undef = .int .i64 j) ∧ Hid (txL (s.data.toList.drop j) acc = R) ∧ LxAt wr lb s i out ∧ (GB wr 88 w.heap.size w.heap.size acc ∧ (acc = [] → wr.heap[w.heap.size]? = some (.cells #[.pointer none, .slice none 0 0] 88 (0, 0)))) ∧ (i < j ∧ j ≤ s.size) ∧ acc.length ≤ j ∧ Frm (fun k => w.heap.size ≤ k) w wr)
    (fun a wr => ∃ (j : Nat) (acc : List UInt8), (a.tmps.size = 82 ∧ a.defers = [] ∧ a.tmps.getD 0 undef = .pointer (some ⟨lb, 0, none⟩) ∧ a.tmps.getD 3 undef = .pointer (some ⟨w.heap.size, 0, none⟩) ∧ a.tmps.getD 5 undef = .int .i64 j) ∧ Hid (txL (s.data.toList.drop j) acc = R) ∧ LxAt wr lb s i out ∧ (GB wr 88 w.heap.size w.heap.size acc ∧ (acc = [] → wr.heap[w.heap.size]? = some (.cells #[.pointer none, .slice none 0 0] 88 (0, 0)))) ∧ (i < j ∧ j ≤ s.size) ∧ acc.length ≤ j ∧ Frm (fun k => w.heap.size ≤ k) w wr ∧ acc.length ≤ 256 ∧ ∃ h : j < s.size, s[j].toNat = 92)
    (fun _ _ => False)
    (fun a _ => 2 * (65540 - nOf (a.tmps.getD 5 undef)) + 1) (fun a _ => 2 * (65540 - nOf (a.tmps.getD 5 undef))) (fun _ _ => 0) (r2 := Code.skip) (fun _ => rfl) (fun _ => rfl) (fun h => by obtain ⟨_, _, h⟩ := h; exact h.elim) ?first ?pass0 ?pass1 (fun _ _ h => h.elim)
  case pass0 =>
    rintro a wr ⟨j, acc, ⟨hs_, hd, h0, h3, h5⟩, hT, X, B, hj, hal, F⟩
    have hn5 : nOf (a.tmps.getD 5 undef) = j := by rw [h5]; rfl
    obtain ⟨u, hu⟩ : ∃ u : Nat → Value, Hid ((fun i => a.tmps.getD i undef) = u) := ⟨_, Lib.hid rfl⟩
    have ha : a = { tmps := #[u 0, u 1, u 2, u 3, u 4, u 5, u 6, u 7, u 8, u 9, u 10, u 11, u 12, u 13, u 14, u 15, u 16, u 17, u 18, u 19, u 20, u 21, u 22, u 23, u 24, u 25, u 26, u 27, u 28, u 29, u 30, u 31, u 32, u 33, u 34, u 35, u 36, u 37, u 38, u 39, u 40, u 41, u 42, u 43, u 44, u 45, u 46, u 47, u 48, u 49, u 50, u 51, u 52, u 53, u 54, u 55, u 56, u 57, u 58, u 59, u 60, u 61, u 62, u 63, u 64, u 65, u 66, u 67, u 68, u 69, u 70, u 71, u 72, u 73, u 74, u 75, u 76, u 77, u 78, u 79, u 80, u 81], defers := [] } := by
      rw [← hu.out]
      exact act_lit a 82 hs_ hd
    have e0 : u 0 = .pointer (some ⟨lb, 0, none⟩) := by rw [← hu.out]; exact h0
    have e3 : u 3 = .pointer (some ⟨w.heap.size, 0, none⟩) := by rw [← hu.out]; exact h3
    have e5 : u 5 = .int .i64 j := by rw [← hu.out]; exact h5
    rw [e0, e3, e5] at ha
    clear hu hs_ hd hn5 h0 h3 h5
    subst ha
    clear e0 e3 e5
    obtain ⟨hij, hj⟩ := hj
    have q0 : wr.cell? ⟨lb, 0, none⟩ = some (.string s) := by obtain ⟨a, n, c, hb, -⟩ := X; exact obj_cell hb 0
    have hj5 : j ≤ 65536 := by omega
    have h0 := h
    clear h q1 hR
    by_cases hlt : j < s.size
    case neg =>
      obtain rfl : j = s.size := by omega
      have hZZ := Lib.hid (fin.out (by rw [← hT.out, List.drop_of_length_le (by simp)]; rfl))
      go_wp2_with (fail)
      rw [jump3_ret]
      go_ret
      rw [hZZ.out]
      exact ⟨rfl, X, F.mono fun k _ h => by have h' : w.heap.size ≤ k := h; omega⟩
    have hdr := drop_at hlt
    rw [hdr] at hT
    have hc : s[j].toNat < 256 := s[j].toNat_lt
    by_cases k1 : s[j].toNat = 10
    · have b1 : ((s[j].toNat : Int) == 10) = true := by simp [k1]
      have hZZ := Lib.hid (fin.out (by rw [← hT.out]; exact txL_stop _ _ _ (.inl k1)))
      clear hdr hT
      go_wp2_with (fail)
      rw [jump3_ret]
      go_ret
      rw [hZZ.out]
      exact ⟨rfl, X, F.mono fun k _ h => by have h' : w.heap.size ≤ k := h; omega⟩
    have b1 : ((s[j].toNat : Int) == 10) = false := by simp; omega
    have HB := B.1
    by_cases k2 : 256 < acc.length
    · have hZZ := Lib.hid (fin.out (by rw [← hT.out]; exact txL_stop _ _ _ (.inr k2)))
      have b2 : (256 : Int) < acc.length := by omega
      clear hdr hT
      go_wp2_with (fail)
      refine (glen_ok HB).mono ?_
      rintro e w1 ⟨rfl, rfl⟩
      go_wp2_with (fail)
      rw [jump3_ret]
      go_ret
      rw [hZZ.out]
      exact ⟨rfl, X, F.mono fun k _ h => by have h' : w.heap.size ≤ k := h; omega⟩
    have b2 : ¬ (256 : Int) < acc.length := by omega
    by_cases k3 : s[j].toNat = 34
    · have b3 : ((s[j].toNat : Int) == 34) = true := by simp [k3]
      have hRR := hT.out.symm.trans (txL_end _ _ _ (by omega) k3)
      have hZZ : Hid (Z = (0, j + 1, out ++ [⟨2, ⟨acc.toArray⟩, 0, i⟩])) := Lib.hid (by
        rw [← hZ.out, hRR]
        have e : i + (s.size - i - (s.data.toList.drop (j + 1)).length) = j + 1 := by
          rw [List.length_drop]
          have : s.data.toList.length = s.size := Array.length_toList
          omega
        show ((0, i + (s.size - i - (s.data.toList.drop (j + 1)).length), _) : Int × Nat × List Tk) = _
        rw [e])
      clear hdr hT hRR
      go_wp2_with (fail)
      refine (glen_ok HB).mono ?_
      rintro e w1 ⟨rfl, rfl⟩
      go_wp2_with (fail)
      have HS : Calls Tryz.prog 28 #[.pointer (some ⟨w.heap.size, 0, none⟩)] wr fun e w' => e = .returned (.string ⟨acc.toArray⟩) ∧ Frm (fun k => w.heap.size ≤ k) wr w' := by
        by_cases h0 : acc = []
        · subst h0
          exact (gstring_new (B.2 rfl)).mono fun e w' h => ⟨h.1, h.2.mono fun _ _ h => h.elim⟩
        · exact gstring_ok HB h0
      refine HS.mono ?_
      rintro e w2 ⟨rfl, f2⟩
      have F2 := F.trans f2
      have X2 : LxAt w2 lb s i out := LxAt.keep h0 F2
      go_wp2_with (fail)
      refine (add_ok X2 ⟨2, ⟨acc.toArray⟩, 0, 0⟩ (j + 1) hl).mono ?_
      rintro e w3 ⟨rfl, X3, f3⟩
      go_wp2_with (fail)
      rw [jump3_ret]
      go_ret
      rw [hZZ.out]
      exact ⟨rfl, X3, (F2.mono fun k _ h => by have h' : w.heap.size ≤ k := h; show lb ≤ k; omega).trans f3⟩
    have b3 : ((s[j].toNat : Int) == 34) = false := by simp; omega
    by_cases k4 : s[j].toNat = 92
    · have b4 : ((s[j].toNat : Int) == 92) = true := by simp [k4]
      rw [← hdr] at hT
      clear hdr
      go_wp2_with (fail)
      refine (glen_ok HB).mono ?_
      rintro e w1 ⟨rfl, rfl⟩
      go_wp2_with (fail)
      go_step3
      exact ⟨⟨j, acc, ⟨rfl, rfl, rfl, rfl, rfl⟩, hT, X, B, ⟨hij, hj⟩, hal, F, by omega, hlt, k4⟩, Nat.lt_succ_self _⟩
    have b4 : ((s[j].toNat : Int) == 92) = false := by simp; omega
    have hT' : Hid (txL (s.data.toList.drop (j + 1)) (acc ++ [s[j]]) = R) := Lib.hid ((txL_cons _ _ _ k1 (by omega) k3 k4).symm.trans hT.out)
    clear hdr hT
    go_wp2_with (fail)
    refine (glen_ok HB).mono ?_
    rintro e w1 ⟨rfl, rfl⟩
    go_wp2_with (fail)
    refine (gwriteByte_ok BTt HB s[j] rfl F.size (by omega)).mono ?_
    rintro e w2 ⟨rfl, B2, f2⟩
    have F2 := F.trans f2
    have X2 : LxAt w2 lb s i out := LxAt.keep h0 F2
    go_wp2_with (fail)
    go_step3
    refine ⟨⟨j + 1, acc ++ [s[j]], ⟨rfl, rfl, rfl, rfl, rfl⟩, hT', X2, ⟨B2, fun h => by simp at h⟩, ⟨by omega, hlt⟩, by simp; omega, F2⟩, ?_⟩
    show 2 * (65540 - ((j : Int) + 1).toNat) + 1 < 2 * (65540 - (j : Int).toNat) + 1
    omega
  case pass1 =>
    rintro a wr ⟨j, acc, ⟨hs_, hd, h0, h3, h5⟩, hT, X, B, hj, hal, F, ha5, hlt, k92⟩
    have hn5 : nOf (a.tmps.getD 5 undef) = j := by rw [h5]; rfl
    obtain ⟨u, hu⟩ : ∃ u : Nat → Value, Hid ((fun i => a.tmps.getD i undef) = u) := ⟨_, Lib.hid rfl⟩
    have ha : a = { tmps := #[u 0, u 1, u 2, u 3, u 4, u 5, u 6, u 7, u 8, u 9, u 10, u 11, u 12, u 13, u 14, u 15, u 16, u 17, u 18, u 19, u 20, u 21, u 22, u 23, u 24, u 25, u 26, u 27, u 28, u 29, u 30, u 31, u 32, u 33, u 34, u 35, u 36, u 37, u 38, u 39, u 40, u 41, u 42, u 43, u 44, u 45, u 46, u 47, u 48, u 49, u 50, u 51, u 52, u 53, u 54, u 55, u 56, u 57, u 58, u 59, u 60, u 61, u 62, u 63, u 64, u 65, u 66, u 67, u 68, u 69, u 70, u 71, u 72, u 73, u 74, u 75, u 76, u 77, u 78, u 79, u 80, u 81], defers := [] } := by
      rw [← hu.out]
      exact act_lit a 82 hs_ hd
    have e0 : u 0 = .pointer (some ⟨lb, 0, none⟩) := by rw [← hu.out]; exact h0
    have e3 : u 3 = .pointer (some ⟨w.heap.size, 0, none⟩) := by rw [← hu.out]; exact h3
    have e5 : u 5 = .int .i64 j := by rw [← hu.out]; exact h5
    rw [e0, e3, e5] at ha
    clear hu hs_ hd hn5 h0 h3 h5
    subst ha
    clear e0 e3 e5
    obtain ⟨hij, hj⟩ := hj
    have q0 : wr.cell? ⟨lb, 0, none⟩ = some (.string s) := by obtain ⟨a, n, c, hb, -⟩ := X; exact obj_cell hb 0
    have hj5 : j ≤ 65536 := by omega
    have h0 := h
    clear h q1 hR
    rw [drop_at hlt] at hT
    have hE := hT.out.symm.trans (txL_esc _ _ _ ha5 k92)
    by_cases hl2 : j + 1 < s.size
    case neg =>
      have hx : s.size ≤ j + 1 := by omega
      have hZZ := Lib.hid (fin.out (by rw [hE, List.drop_of_length_le (by simp; omega)]))
      have b1 : (s.size : Int) ≤ (j : Int) + 1 := by omega
      clear hE hT
      go_wp2_with (fail)
      rw [jump3_ret]
      go_ret
      rw [hZZ.out]
      exact ⟨rfl, X, F.mono fun k _ h => by have h' : w.heap.size ≤ k := h; omega⟩
    have b1 : ¬ (s.size : Int) ≤ (j : Int) + 1 := by omega
    rw [drop_at hl2] at hE
    simp only at hE
    have HSG := sign_ok s[j + 1]
    have HE := Lib.hid hE
    clear hE hT
    unfold sgL at HSG
    rcases k5 : (s[j + 1].toNat == 34 || s[j + 1].toNat == 92) with _ | _
    · rcases k6 : (s[j + 1].toNat == 110) with _ | _
      · rw [k5, k6] at HSG HE
        have hZZ := Lib.hid (fin.out (by rw [HE.out]; rfl))
        simp only [Bool.false_eq_true, if_false, noTx] at HSG
        go_wp2_with (fail)
        refine (HSG _).mono ?_
        rintro e w1 ⟨rfl, f1⟩
        go_wp2_with (fail)
        rw [jump3_ret]
        go_ret
        rw [hZZ.out]
        exact ⟨rfl, X.no f1, (F.mono fun k _ h => by have h' : w.heap.size ≤ k := h; show lb ≤ k; omega).trans (f1.mono fun _ _ h => h.elim)⟩
      · rw [k5, k6] at HSG HE
        have hT' : Hid (txL (s.data.toList.drop (j + 1 + 1)) (acc ++ [10]) = R) := Lib.hid (HE.out.trans (by rw [if_neg (by decide), if_pos (by decide)])).symm
        simp only [Bool.false_eq_true, if_false, if_true] at HSG
        go_wp2_with (fail)
        refine (HSG _).mono ?_
        rintro e w1 ⟨rfl, f1⟩
        have F1 : Frm (fun k => w.heap.size ≤ k) w w1 := F.trans (f1.mono fun _ _ h => h.elim)
        have B1 := B.1.no f1
        go_wp2_with (fail)
        refine (gwriteString_ok BTt B1 ⟨#[10]⟩ F1.size (by show acc.length + (Array.size #[10]) ≤ _; simp; omega)).mono ?_
        rintro e w2 ⟨rfl, B2, f2⟩
        have F2 := F1.trans f2
        have X2 : LxAt w2 lb s i out := LxAt.keep h0 F2
        go_wp2_with (fail)
        go_step3
        refine ⟨⟨j + 2, acc ++ [10], ⟨rfl, rfl, rfl, rfl, rfl⟩, hT', X2, ⟨B2, fun h => by simp at h⟩, ⟨by omega, hl2⟩, by simp; omega, F2⟩, ?_⟩
        show 2 * (65540 - ((j : Int) + 2).toNat) + 1 < 2 * (65540 - (j : Int).toNat)
        omega
    · rw [k5] at HSG HE
      have hT' : Hid (txL (s.data.toList.drop (j + 1 + 1)) (acc ++ [s[j + 1]]) = R) := Lib.hid (HE.out.trans (by rw [if_pos (by decide)])).symm
      simp only [if_true] at HSG
      go_wp2_with (fail)
      refine (HSG _).mono ?_
      rintro e w1 ⟨rfl, f1⟩
      have F1 : Frm (fun k => w.heap.size ≤ k) w w1 := F.trans (f1.mono fun _ _ h => h.elim)
      have B1 := B.1.no f1
      go_wp2_with (fail)
      refine (gwriteString_ok BTt B1 ⟨#[s[j + 1]]⟩ F1.size (by show acc.length + (Array.size #[s[j + 1]]) ≤ _; simp; omega)).mono ?_
      rintro e w2 ⟨rfl, B2, f2⟩
      have F2 := F1.trans f2
      have X2 : LxAt w2 lb s i out := LxAt.keep h0 F2
      go_wp2_with (fail)
      go_step3
      refine ⟨⟨j + 2, acc ++ [s[j + 1]], ⟨rfl, rfl, rfl, rfl, rfl⟩, hT', X2, ⟨B2, fun h => by simp at h⟩, ⟨by omega, hl2⟩, by simp; omega, F2⟩, ?_⟩
      show 2 * (65540 - ((j : Int) + 2).toNat) + 1 < 2 * (65540 - (j : Int).toNat)
      omega
  case first =>
    intro pass
    have HPS := Lib.hid pass.1
    clear pass
    have F0 : Frm (fun k => w.heap.size ≤ k) w (w.alloc (.cells #[.pointer none, .slice none 0 0] 88 (0, 0))) := (Frm.refl _ w).al _
    have B0 := heap_alloc_new w (.cells #[.pointer none, .slice none 0 0] 88 (0, 0))
    have X0 := h.keep F0
    go_wp2_with (fail)
    go_step3
    simp only [Exit.then]
    rename_i hk
    exact hk _ _ (HPS.out _ _ ⟨i + 1, [], ⟨rfl, rfl, rfl, rfl, rfl⟩, hR, X0, ⟨GB.new (Nat.le_refl _) B0, fun _ => B0⟩, ⟨by omega, hi⟩, Nat.zero_le _, F0⟩)
end Go.Proofs.YthaegncocdddfaaGreatDoor

/- Merged: Lex1 Lex2 Lex3. -/
import Derived.Deep.LoopGhost
import Derived.Deep.QuietTactic
import Derived.Test.YthaegncocdddfaaGreatDoorK03
import Derived.Test.YthaegncocdddfaaGreatDoorK04
import Derived.Test.YthaegncocdddfaaGreatDoorK07
import Derived.Test.YthaegncocdddfaaGreatDoorK10
import Derived.Test.YthaegncocdddfaaGreatDoorK18
import Derived.Test.YthaegncocdddfaaGreatDoorK26
/- The lexer, walked: run, add. -/
namespace Go.Proofs.YthaegncocdddfaaGreatDoor
set_option linter.unusedVariables false
set_option linter.unusedSimpArgs false
set_option linter.unusedVariables false
set_option linter.unusedSimpArgs false
open Go.RowKit Go.Lib Go.Tt
/-- Block lb is a lexer over s that stands at a place, with tokens. -/
def LxAt (w : World) (lb : Nat) (s : ByteArray) (i : Nat) (out : List Tk) : Prop := ∃ a n c, w.heap[lb]? = some (.cells #[.string s, .int .i64 i, .slice a n c] 100 (0, 0)) ∧ Ow w (fun k => lb < k) 104 eTk (.slice a n c) out
theorem LxAt.no {w w' : World} {lb : Nat} {s : ByteArray} {i : Nat} {out : List Tk} (h : LxAt w lb s i out) (f : Frm No w w') : LxAt w' lb s i out := by
  obtain ⟨a, n, c, hb, o⟩ := h
  exact ⟨a, n, c, f.obj hb id, o.no f⟩
theorem word_ok (c : UInt8) (w : World) : Calls Tryz.prog 100 #[.int .u8 c.toNat] w fun e w' => e = .returned (.bool (wdB c)) ∧ w = w' := by
  have h1 := Lib.hid (fun W => first_ok c.toNat W)
  have h2 := Lib.hid (fun W => digit_ok c.toNat W)
  rw [firstB_fi] at h1
  rw [digB_dg] at h2
  unfold wdB
  rcases hf : fiB c with _ | _
  · rw [hf] at h1
    rcases hd : dgB c with _ | _
    all_goals
      rw [hd] at h2
      go_enter Tryz.func100, Tryz.ntmps100
      go_wp2_with (fail)
      refine (h1.out _).mono ?_
      rintro e w1 ⟨rfl, rfl⟩
      go_wp2_with (fail)
      refine (h2.out _).mono ?_
      rintro e w1 ⟨rfl, rfl⟩
      go_wp2_with (fail)
      go_ret
      exact ⟨rfl, rfl⟩
  · rw [hf] at h1
    go_enter Tryz.func100, Tryz.ntmps100
    go_wp2_with (fail)
    refine (h1.out _).mono ?_
    rintro e w1 ⟨rfl, rfl⟩
    go_wp2_with (fail)
    go_ret
    exact ⟨rfl, rfl⟩
/-- How far bytes of a kind go on. -/
def runL (p : UInt8 → Bool) (s : ByteArray) (i : Nat) : Nat := i + ((s.data.toList.drop i).takeWhile p).length
theorem runL_step {p : UInt8 → Bool} {s : ByteArray} {i : Nat} (h : i < s.size) (hp : p s[i] = true) : runL p s i = runL p s (i + 1) := by
  have hl : i < s.data.toList.length := by simpa using h
  unfold runL
  rw [List.drop_eq_getElem_cons hl, List.takeWhile_cons_of_pos (by exact hp), List.length_cons]
  omega
theorem runL_stop {p : UInt8 → Bool} {s : ByteArray} {i : Nat} (h : ∀ h : i < s.size, p s[i] = false) : runL p s i = i := by
  unfold runL
  rcases Nat.lt_or_ge i s.size with h1 | h1
  · have hl : i < s.data.toList.length := by simpa using h1
    rw [List.drop_eq_getElem_cons hl, List.takeWhile_cons_of_neg (by have := h h1; rw [show s.data.toList[i] = s[i] from rfl, this]; decide)]
    rfl
  · rw [List.drop_of_length_le (by simpa using h1)]
    rfl
set_option maxHeartbeats 2000000 in
set_option maxRecDepth 100000 in
theorem run_word {w : World} {lb : Nat} {s : ByteArray} {a0 : Nat} {out : List Tk} (h : LxAt w lb s a0 out) (i : Nat) (hi : i ≤ s.size) (hs : s.size ≤ 65536) :
    Calls Tryz.prog 99 #[.pointer (some ⟨lb, 0, none⟩), .int .i64 i, .func (.func 100) #[] #[]] w fun e w' => e = .returned (.int .i64 (runL wdB s i)) ∧ w = w' := by
  obtain ⟨a, n, c, hb, -⟩ := h
  have q0 : w.cell? ⟨lb, 0, none⟩ = some (.string s) := obj_cell hb 0
  have nb := lt_of_block hb
  obtain ⟨R, hR⟩ : ∃ R, Hid (runL wdB s i = R) := ⟨_, Lib.hid rfl⟩
  rw [hR.out]
  clear hb
  obtain ⟨p, hp⟩ : ∃ p, Hid (wdB = p) := ⟨_, Lib.hid rfl⟩
  have HC := Lib.hid (fun c W => word_ok c W)
  rw [hp.out] at HC hR
  go_enter Tryz.func99, Tryz.ntmps99
  go_wp2_with (fail)
  go_loopg [1] (s.size - i + 1) (fun g iv wr => ∃ j : Nat, iv = .int .i64 j ∧ wr = w ∧ j ≤ s.size ∧ g = s.size - j + 1 ∧ Hid (runL p s j = R))
  case atStart => exact ⟨i, rfl, rfl, hi, by omega, hR⟩
  case round =>
    obtain ⟨j, rfl, rfl, hj, hg, hJ⟩ := hrel
    have hG := Lib.hid hg
    clear hg hR hi
    by_cases hlt : j < s.size
    · rcases hv : p s[j] with _ | _
      · have hE := Lib.hid (hJ.out.symm.trans (runL_stop fun _ => hv))
        have HCj := HC.out s[j]
        rw [hv] at HCj
        go_wp2_with (fail)
        refine (HCj _).mono ?_
        rintro e w1 ⟨rfl, rfl⟩
        go_wp2_with (fail)
        go_ret
        exact ⟨by rw [hE.out]; rfl, rfl⟩
      · have hE := Lib.hid ((runL_step hlt hv).symm.trans hJ.out)
        have HCj := HC.out s[j]
        rw [hv] at HCj
        go_wp2_with (fail)
        refine (HCj _).mono ?_
        rintro e w1 ⟨rfl, rfl⟩
        go_wp2_with (fail)
        go_roundg (s.size - (j + 1) + 1)
        case measure => have := hG.out; omega
        case rel => exact ⟨j + 1, by go_num, rfl, by omega, rfl, hE⟩
    · have hE := Lib.hid (hJ.out.symm.trans (runL_stop fun h => absurd h hlt))
      have hii : ¬ ((j : Int) < s.size) := by omega
      go_wp2_with (fail)
      go_ret
      exact ⟨by rw [hE.out]; rfl, rfl⟩
theorem digit_c (c : UInt8) (w : World) : Calls Tryz.prog 86 #[.int .u8 c.toNat] w fun e w' => e = .returned (.bool (dgB c)) ∧ w = w' := by
  have := digit_ok c.toNat w
  rwa [digB_dg] at this
set_option maxHeartbeats 2000000 in
set_option maxRecDepth 100000 in
theorem run_dig {w : World} {lb : Nat} {s : ByteArray} {a0 : Nat} {out : List Tk} (h : LxAt w lb s a0 out) (i : Nat) (hi : i ≤ s.size) (hs : s.size ≤ 65536) :
    Calls Tryz.prog 99 #[.pointer (some ⟨lb, 0, none⟩), .int .i64 i, .func (.func 86) #[] #[]] w fun e w' => e = .returned (.int .i64 (runL dgB s i)) ∧ w = w' := by
  obtain ⟨a, n, c, hb, -⟩ := h
  have q0 : w.cell? ⟨lb, 0, none⟩ = some (.string s) := obj_cell hb 0
  have nb := lt_of_block hb
  obtain ⟨R, hR⟩ : ∃ R, Hid (runL dgB s i = R) := ⟨_, Lib.hid rfl⟩
  rw [hR.out]
  clear hb
  obtain ⟨p, hp⟩ : ∃ p, Hid (dgB = p) := ⟨_, Lib.hid rfl⟩
  have HC := Lib.hid (fun c W => digit_c c W)
  rw [hp.out] at HC hR
  go_enter Tryz.func99, Tryz.ntmps99
  go_wp2_with (fail)
  go_loopg [1] (s.size - i + 1) (fun g iv wr => ∃ j : Nat, iv = .int .i64 j ∧ wr = w ∧ j ≤ s.size ∧ g = s.size - j + 1 ∧ Hid (runL p s j = R))
  case atStart => exact ⟨i, rfl, rfl, hi, by omega, hR⟩
  case round =>
    obtain ⟨j, rfl, rfl, hj, hg, hJ⟩ := hrel
    have hG := Lib.hid hg
    clear hg hR hi
    by_cases hlt : j < s.size
    · rcases hv : p s[j] with _ | _
      · have hE := Lib.hid (hJ.out.symm.trans (runL_stop fun _ => hv))
        have HCj := HC.out s[j]
        rw [hv] at HCj
        go_wp2_with (fail)
        refine (HCj _).mono ?_
        rintro e w1 ⟨rfl, rfl⟩
        go_wp2_with (fail)
        go_ret
        exact ⟨by rw [hE.out]; rfl, rfl⟩
      · have hE := Lib.hid ((runL_step hlt hv).symm.trans hJ.out)
        have HCj := HC.out s[j]
        rw [hv] at HCj
        go_wp2_with (fail)
        refine (HCj _).mono ?_
        rintro e w1 ⟨rfl, rfl⟩
        go_wp2_with (fail)
        go_roundg (s.size - (j + 1) + 1)
        case measure => have := hG.out; omega
        case rel => exact ⟨j + 1, by go_num, rfl, by omega, rfl, hE⟩
    · have hE := Lib.hid (hJ.out.symm.trans (runL_stop fun h => absurd h hlt))
      have hii : ¬ ((j : Int) < s.size) := by omega
      go_wp2_with (fail)
      go_ret
      exact ⟨by rw [hE.out]; rfl, rfl⟩
end Go.Proofs.YthaegncocdddfaaGreatDoor

/- The lexer, walked: add. -/
namespace Go.Proofs.YthaegncocdddfaaGreatDoor
set_option linter.unusedVariables false
set_option linter.unusedSimpArgs false
open Go.RowKit Go.Lib Go.Tt
set_option maxHeartbeats 4000000 in
set_option maxRecDepth 100000 in
theorem add_ok {w : World} {lb : Nat} {s : ByteArray} {i : Nat} {out : List Tk} (h : LxAt w lb s i out) (t : Tk) (j : Nat) (hl : out.length ≤ 65536) :
    Calls Tryz.prog 89 #[.pointer (some ⟨lb, 0, none⟩), .agg #[.int .i64 t.kind, .string t.text, .int .i64 t.int, .int .i64 t.pos], .int .i64 j] w fun e w' => e = .returned (.int .i64 0) ∧ LxAt w' lb s j (out ++ [{ t with pos := i }]) ∧ Frm (fun k => lb ≤ k) w w' := by
  obtain ⟨a, n, c, hb, o⟩ := h
  have nb := lt_of_block hb
  have zb := obj_frz hb
  have q1 : w.cell? ⟨lb, 1, none⟩ = some (.int .i64 i) := obj_cell hb 1
  have q2 : w.cell? ⟨lb, 2, none⟩ = some (.slice a n c) := obj_cell hb 2
  have hno := o.cap.1
  have HN := Lib.hid hno
  have hno' : n ≤ 65536 := by omega
  have HL := Lib.hid hl
  clear hno hl
  go_enter Tryz.func89, Tryz.ntmps89
  go_wp2_with (fail)
  refine wp_region_plan [([0, 1, 2, 3, 4, 5, 6], [4]), ([7, 8, 9, 10], [])] 26 (by kernel_rfl) (by kernel_rfl) (by simp) ?_
  intro N hN
  simp only [wpSegs, List.map_cons, List.map_nil, List.getD_cons_zero, List.getD_cons_succ]
  go_wp2_with (fail)
  refine ⟨again_cons (again_of rfl rfl ?_) again_nil, ?_⟩
  · go_simp
  have o1 := (o.mono (G := fun k => lb < k ∧ k < w.heap.size) fun k hk h => ⟨h, hk⟩)
  go_wp2_with (at_builtin; refine wpList_ap _ rfl (.tmp 16) (.tmp 18) 65 65 rfl 104 _ 40 Tryz.underlying65 i_tk rfl (o1.no ?fr) ((RdS.litg (g := w.heap.size + 1) _ eTk ⟨t.kind, t.text, t.int, i⟩ _ ?sz).drew.src Tryz.underlying65) rfl rfl rfl ?c1 ?c2 ?_)
  case fr => exact (((Frm.refl No w).al _).al _).trans (Frm.drew No _)
  case sz => simp
  case c1 => rw [← HN.out]; unfold maxLen; omega
  case c2 => rw [← HN.out]; omega
  intro a' c' w1 o2 f2
  have FA : Frm No w ((w.alloc (.cells #[.int .i64 t.kind, .string t.text, .int .i64 t.int, .int .i64 i] 104)).alloc (.cells #[.int .i64 t.kind, .string t.text, .int .i64 t.int, .int .i64 i] 104)).drew := (((Frm.refl No w).al _).al _).trans (Frm.drew No _)
  have hb1 := f2.obj (FA.obj hb id) (fun h => Nat.lt_irrefl _ h.1)
  have F1 : Frm (fun k => lb ≤ k) w w1 := (FA.mono (G := fun k => lb ≤ k) fun _ _ h => h.elim).trans (f2.mono fun k _ h => Nat.le_of_lt h.1)
  have O1 : Ow w1 (fun k => lb < k) 104 eTk (.slice a' (n + 1) c') (out ++ [⟨t.kind, t.text, t.int, i⟩]) := by
    rw [HN.out]
    refine o2.mono fun k hk h => ?_
    rcases h with h | h
    · exact h.1
    · have := h.1; simp at this; omega
  have nb1 := lt_of_block hb1
  have zb1 := obj_frz hb1
  have q11 : w1.cell? ⟨lb, 1, none⟩ = some (.int .i64 i) := obj_cell hb1 1
  have q21 : w1.cell? ⟨lb, 2, none⟩ = some (.slice a n c) := obj_cell hb1 2
  rw [← HN.out]
  clear o2 f2 FA o1 o zb q1 q2 hb nb
  go_wp2_with (fail)
  go_ret
  refine ⟨rfl, ⟨a', n + 1, c', ?_, (O1.st (b := lb) (Nat.lt_irrefl _) 2 _).st (b := lb) (Nat.lt_irrefl _) 1 _⟩, (F1.sc (Nat.le_refl _) _ _).sc (Nat.le_refl _) _ _⟩
  have := obj_setCell (i := 1) (obj_setCell (i := 2) hb1 (.slice a' (n + 1) c')) (.int .i64 j)
  exact this
end Go.Proofs.YthaegncocdddfaaGreatDoor

/- The lexer, walked: name, number. -/
namespace Go.Proofs.YthaegncocdddfaaGreatDoor
set_option linter.unusedVariables false
set_option linter.unusedSimpArgs false
open Go.RowKit Go.Lib Go.Tt
/-- What a token's reading leaves: an error's number, a place, the tokens. -/
def lexR : Int ⊕ (Tk × Nat) → Nat → List Tk → Int × Nat × List Tk
  | .inl e, i, out => (e, i, out)
  | .inr (t, k), i, out => (0, i + k, out ++ [{ t with pos := i }])
/-- A name read. -/
def nmL (l : List UInt8) : Int ⊕ (Tk × Nat) := if Nat.ble (l.takeWhile wdB).length 32 then .inr (⟨0, ⟨(l.takeWhile wdB).toArray⟩, 0, 0⟩, (l.takeWhile wdB).length) else .inl 1300
theorem run_le {p : UInt8 → Bool} {s : ByteArray} {i : Nat} (hi : i ≤ s.size) : i ≤ runL p s i ∧ runL p s i ≤ s.size := by
  unfold runL
  have h1 : ((s.data.toList.drop i).takeWhile p).length ≤ (s.data.toList.drop i).length := (List.takeWhile_sublist p).length_le
  rw [List.length_drop] at h1
  have h2 : s.data.toList.length = s.size := Array.length_toList
  omega
theorem tw_take {α : Type} (p : α → Bool) (l : List α) : l.takeWhile p = l.take (l.takeWhile p).length := by
  induction l with
  | nil => rfl
  | cons x l ih =>
    by_cases h : p x
    · rw [List.takeWhile_cons_of_pos h, List.length_cons, List.take_succ_cons, ← ih]
    · rw [List.takeWhile_cons_of_neg h]; rfl
/-- What is cut out of a text. -/
theorem cut_list (s : ByteArray) (i j : Nat) : s.extract i j = ⟨((s.data.toList.drop i).take (j - i)).toArray⟩ := by
  apply ByteArray.ext
  rw [ByteArray.data_extract]
  apply Array.toList_inj.1
  rw [Array.toList_extract, List.toList_toArray]
theorem cut_run {p : UInt8 → Bool} {s : ByteArray} {i : Nat} : s.extract i (runL p s i) = ⟨((s.data.toList.drop i).takeWhile p).toArray⟩ := by
  rw [cut_list, tw_take p (s.data.toList.drop i)]
  unfold runL
  rw [Nat.add_sub_cancel_left]
theorem drop_at {s : ByteArray} {i : Nat} (h : i < s.size) : s.data.toList.drop i = s[i] :: s.data.toList.drop (i + 1) := by
  have hl : i < s.data.toList.length := by simpa using h
  rw [List.drop_eq_getElem_cons hl]
  rfl
theorem tw_all {α : Type} (p : α → Bool) : ∀ (l : List α), ∀ x ∈ l.takeWhile p, p x = true
  | [], x, h => by cases h
  | y :: l, x, h => by
    by_cases hy : p y
    · rw [List.takeWhile_cons_of_pos hy] at h
      rcases List.mem_cons.1 h with rfl | h
      · exact hy
      · exact tw_all p l x h
    · rw [List.takeWhile_cons_of_neg hy] at h
      cases h
set_option maxHeartbeats 4000000 in
set_option maxRecDepth 100000 in
theorem lname_ok {w : World} {lb : Nat} {s : ByteArray} {i : Nat} {out : List Tk} (h : LxAt w lb s i out) (hi : i < s.size) (hs : s.size ≤ 65536) (hl : out.length ≤ 65536) (hf : fiB s[i] = true) :
    Calls Tryz.prog 85 #[.pointer (some ⟨lb, 0, none⟩)] w fun e w' => e = .returned (.int .i64 (lexR (nmL (s.data.toList.drop i)) i out).1) ∧ LxAt w' lb s (lexR (nmL (s.data.toList.drop i)) i out).2.1 (lexR (nmL (s.data.toList.drop i)) i out).2.2 ∧ Frm (fun k => lb ≤ k) w w' := by
  obtain ⟨R, hR⟩ : ∃ R, Hid (lexR (nmL (s.data.toList.drop i)) i out = R) := ⟨_, Lib.hid rfl⟩
  rw [hR.out]
  have hc := @cut_run wdB s i
  have hle := @run_le wdB s i (Nat.le_of_lt hi)
  have hrow : nameMay ⟨((s.data.toList.drop i).takeWhile wdB).toArray⟩ = Nat.ble ((s.data.toList.drop i).takeWhile wdB).length 32 := by
    rw [drop_at hi, List.takeWhile_cons_of_pos (by unfold wdB; rw [hf]; rfl)]
    refine nameMay_row hf fun x hx => ?_
    rw [← List.takeWhile_cons_of_pos (p := wdB) (by unfold wdB; rw [hf]; rfl)] at hx
    exact tw_all _ _ x hx
  have hrl : runL wdB s i = i + ((s.data.toList.drop i).takeWhile wdB).length := rfl
  have hRN := run_word h i (Nat.le_of_lt hi) hs
  obtain ⟨nm, hnm⟩ : ∃ nm : ByteArray, Hid (⟨((s.data.toList.drop i).takeWhile wdB).toArray⟩ = nm) := ⟨_, Lib.hid rfl⟩
  obtain ⟨K, hK⟩ : ∃ K, Hid (((s.data.toList.drop i).takeWhile wdB).length = K) := ⟨_, Lib.hid rfl⟩
  obtain ⟨j, hj⟩ : ∃ j, Hid (runL wdB s i = j) := ⟨_, Lib.hid rfl⟩
  have hR2 : Hid (R = lexR (if Nat.ble K 32 then .inr (⟨0, nm, 0, 0⟩, K) else .inl 1300) i out) := Lib.hid (by rw [← hR.out]; unfold nmL; rw [hK.out, hnm.out])
  rw [hj.out] at hc hle hRN hrl
  rw [hnm.out] at hc hrow
  rw [hK.out] at hrow hrl
  have hsz : nm.size ≤ 9223372036854775807 := by
    have : nm.size ≤ s.size := by rw [← hc, ByteArray.size_extract]; omega
    omega
  have HNM := Lib.hid (fun W => name_ok nm W hsz)
  have hxt : j ≤ s.size := hle.2
  have hxi : i ≤ j := hle.1
  obtain ⟨a, n, c, hb, o⟩ := h
  have q0 : w.cell? ⟨lb, 0, none⟩ = some (.string s) := obj_cell hb 0
  have q1 : w.cell? ⟨lb, 1, none⟩ = some (.int .i64 i) := obj_cell hb 1
  have nb := lt_of_block hb
  have HX : Hid (LxAt w lb s i out) := Lib.hid ⟨a, n, c, hb, o⟩
  have HC := Lib.hid hc
  have HRL := Lib.hid hrl
  rw [hrow] at HNM
  clear hb o hle hrow hrl hsz hR hK hnm hj hf hc
  rcases hk : Nat.ble K 32 with _ | _
  · rw [hk] at HNM hR2
    clear hk
    go_enter Tryz.func85, Tryz.ntmps85
    go_wp2_with (fail)
    refine hRN.mono ?_
    rintro e w1 ⟨rfl, rfl⟩
    go_wp2_with (fail)
    go_quiet (fail)
    rw [HC.out]
    go_wp2_with (fail)
    refine (HNM.out _).mono ?_
    rintro e w1 ⟨rfl, rfl⟩
    go_wp2_with (fail)
    go_ret
    have hRR := hR2.out
    rw [hRR]
    exact ⟨rfl, HX.out.no (Frm.drewN No _ _), Frm.drewN _ _ _⟩
  · rw [hk] at HNM hR2
    clear hk
    go_enter Tryz.func85, Tryz.ntmps85
    go_wp2_with (fail)
    refine hRN.mono ?_
    rintro e w1 ⟨rfl, rfl⟩
    go_wp2_with (fail)
    go_quiet (fail)
    rw [HC.out]
    go_wp2_with (fail)
    refine (HNM.out _).mono ?_
    rintro e w1 ⟨rfl, rfl⟩
    go_wp2_with (fail)
    refine (add_ok (HX.out.no (Frm.drewN No _ _)) ⟨0, nm, 0, 0⟩ j hl).mono ?_
    rintro e w2 ⟨rfl, X2, f2⟩
    go_wp2_with (fail)
    go_ret
    have hRR := hR2.out
    rw [hRR]
    exact ⟨rfl, by rw [HRL.out] at X2; exact X2, (Frm.drewN _ _ _).trans f2⟩
end Go.Proofs.YthaegncocdddfaaGreatDoor

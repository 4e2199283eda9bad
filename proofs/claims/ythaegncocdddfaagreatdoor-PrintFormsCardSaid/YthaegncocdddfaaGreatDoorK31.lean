/- Merged: Lex7 Lex8. -/
import Derived.Test.YthaegncocdddfaaGreatDoorK30
/- The lexer, walked: all (printed by gen_lall.py). -/
namespace Go.Proofs.YthaegncocdddfaaGreatDoor
set_option linter.unusedVariables false
set_option linter.unusedSimpArgs false
set_option linter.unusedVariables false
set_option linter.unusedSimpArgs false
open Go.RowKit Go.Lib Go.Tt
def nlB (c : UInt8) : Bool := !(c.toNat == 10)
theorem txL_len : ∀ (l acc x r : List UInt8), txL l acc = some (x, r) → r.length < l.length
  | [], acc, x, r, h => by simp [txL] at h
  | c :: l, acc, x, r, h => by
    by_cases h1 : c.toNat = 10 ∨ 256 < acc.length
    · rw [txL_stop c l acc h1] at h; cases h
    · have h10 : c.toNat ≠ 10 := fun e => h1 (.inl e)
      have h256 : acc.length ≤ 256 := by omega
      by_cases h3 : c.toNat = 34
      · rw [txL_end c l acc h256 h3] at h
        simp only [Option.some.injEq, Prod.mk.injEq] at h
        obtain ⟨rfl, rfl⟩ := h
        simp
      · by_cases h4 : c.toNat = 92
        · rw [txL_esc c l acc h256 h4] at h
          match l, h with
          | [], h => cases h
          | d :: l', h =>
            simp only at h
            split at h
            · have := txL_len l' _ _ _ h
              simp only [List.length_cons]; omega
            · split at h
              · have := txL_len l' _ _ _ h
                simp only [List.length_cons]; omega
              · cases h
        · rw [txL_cons c l acc h10 h256 h3 h4] at h
          have := txL_len l _ _ _ h
          simp only [List.length_cons]; omega
theorem nuL_out (neg : Bool) (r : List UInt8) : nuL neg r = .inl 1300 ∨ ∃ t, nuL neg r = .inr (t, (r.takeWhile dgB).length + if neg then 1 else 0) ∧ 0 < (r.takeWhile dgB).length := by
  rw [nuL_eq]
  split
  · exact .inl rfl
  · next h =>
    refine .inr ⟨_, rfl, ?_⟩
    rcases Nat.eq_zero_or_pos (r.takeWhile dgB).length with h0 | h0
    · rw [h0] at h; simp at h
    · exact h0
theorem tokL_out (c : UInt8) (r : List UInt8) : (tokL (c :: r) = .inl 1300 ∨ tokL (c :: r) = .inl 1301) ∨ ∃ t k, tokL (c :: r) = .inr (t, k) ∧ 1 ≤ k ∧ k ≤ (c :: r).length := by
  have tw : ∀ (p : UInt8 → Bool) (l : List UInt8), (l.takeWhile p).length ≤ l.length := fun p l => (List.takeWhile_sublist p).length_le
  rw [tokL_eq]
  split
  · next hf =>
    unfold nmL
    split
    · refine .inr ⟨_, _, rfl, ?_, tw _ _⟩
      rw [List.takeWhile_cons_of_pos (by unfold wdB; rw [hf]; rfl)]
      simp
    · exact .inl (.inl rfl)
  · split
    · rcases nuL_out true r with h | ⟨t, h, h0⟩
      · exact .inl (.inl h)
      · exact .inr ⟨t, _, h, by simp, by have := tw dgB r; simp; omega⟩
    · split
      · rcases nuL_out false (c :: r) with h | ⟨t, h, h0⟩
        · exact .inl (.inl h)
        · exact .inr ⟨t, _, h, by omega, by have := tw dgB (c :: r); simp at this ⊢; omega⟩
      · split
        · rcases h : txL r [] with _ | ⟨x, r'⟩
          · exact .inl (.inr rfl)
          · have := txL_len _ _ _ _ h
            exact .inr ⟨_, _, rfl, by simp only [List.length_cons]; omega, Nat.sub_le _ _⟩
        · split
          · exact .inr ⟨_, _, rfl, Nat.le_refl _, by simp⟩
          · split
            · next h =>
              refine .inr ⟨_, _, rfl, by omega, ?_⟩
              have h := beq_iff_eq.1 h
              have := congrArg List.length h
              rw [List.length_take] at this
              simp only [List.length_cons, List.length_nil] at this ⊢
              omega
            · exact .inl (.inl rfl)
def atOf (w : World) (lb : Nat) : Nat := nOf ((w.cell? ⟨lb, 1, none⟩).getD undef)
theorem LxAt.at {w : World} {lb : Nat} {s : ByteArray} {i : Nat} {out : List Tk} (h : LxAt w lb s i out) : atOf w lb = i := by
  obtain ⟨a, n, c, hb, -⟩ := h
  have : w.cell? ⟨lb, 1, none⟩ = some (.int .i64 i) := obj_cell hb 1
  unfold atOf
  rw [this]
  simp [nOf]
theorem LxAt.step {w : World} {lb : Nat} {s : ByteArray} {i : Nat} {out : List Tk} (h : LxAt w lb s i out) : LxAt (w.setCell ⟨lb, 1, none⟩ (.int .i64 ((i : Int) + 1))) lb s (i + 1) out := by
  obtain ⟨a, n, c, hb, o⟩ := h
  refine ⟨a, n, c, ?_, o.st (b := lb) (Nat.lt_irrefl _) 1 _⟩
  have := obj_setCell (i := 1) hb (.int .i64 ((i : Int) + 1))
  exact this
theorem LxAt.facts {w : World} {lb : Nat} {s : ByteArray} {i : Nat} {out : List Tk} (h : LxAt w lb s i out) : w.cell? ⟨lb, 0, none⟩ = some (.string s) ∧ w.cell? ⟨lb, 1, none⟩ = some (.int .i64 i) ∧ lb < w.heap.size ∧ ∀ j, w.frozen? ⟨lb, j, none⟩ = false := by
  obtain ⟨a, n, c, hb, -⟩ := h
  exact ⟨obj_cell hb 0, obj_cell hb 1, lt_of_block hb, obj_frz hb⟩
/-- What all leaves. -/
def LxEnd (lb : Nat) (s : ByteArray) (R : Int ⊕ List Tk) (e : Ending) (w : World) : Prop := (∃ x, R = .inl x ∧ (x = 1300 ∨ x = 1301) ∧ e = .returned (.int .i64 x)) ∨ ∃ ts, R = .inr ts ∧ e = .returned (.int .i64 0) ∧ ts.length ≤ 65536 ∧ LxAt w lb s s.size ts
set_option maxHeartbeats 8000000 in
set_option maxRecDepth 100000 in
theorem lall_ok {w : World} {lb : Nat} {s : ByteArray} (h : LxAt w lb s 0 []) (hs : s.size ≤ 65536) :
    Calls Tryz.prog 34 #[.pointer (some ⟨lb, 0, none⟩)] w fun e w' => LxEnd lb s (lexL (s.data.toList.length + 1) s.data.toList 0 []) e w' ∧ Frm (fun k => lb ≤ k) w w' := by
  obtain ⟨R, hR⟩ : ∃ R, Hid (lexL (s.data.toList.length + 1) s.data.toList 0 [] = R) := ⟨_, Lib.hid rfl⟩
  rw [hR.out]
  go_enter Tryz.func34, Tryz.ntmps34
  go_wp2_with (fail)
  refine jumps3
    (fun a wr => ∃ (n i : Nat) (out : List Tk), (a.tmps.size = 70 ∧ a.defers = [] ∧ a.tmps.getD 0 undef = .pointer (some ⟨lb, 0, none⟩)) ∧ Hid (lexL n (s.data.toList.drop i) i out = R) ∧ s.size - i < n ∧ LxAt wr lb s i out ∧ i ≤ s.size ∧ out.length ≤ i ∧ Frm (fun k => lb ≤ k) w wr)
    (fun a wr => ∃ (n i : Nat) (out : List Tk), (a.tmps.size = 70 ∧ a.defers = [] ∧ a.tmps.getD 0 undef = .pointer (some ⟨lb, 0, none⟩)) ∧ Hid (lexL n (s.data.toList.drop (runL nlB s i)) (runL nlB s i) out = R) ∧ s.size - runL nlB s i < n ∧ LxAt wr lb s i out ∧ i ≤ s.size ∧ out.length ≤ i ∧ Frm (fun k => lb ≤ k) w wr)
    (fun _ _ => False)
    (fun _ wr => 150000 * (70000 - atOf wr lb)) (fun _ wr => 150000 * (70000 - runL nlB s (atOf wr lb)) + 1 + (70000 - atOf wr lb)) (fun _ _ => 0) (r2 := Code.skip) (fun _ => rfl) (fun _ => rfl) (fun h => by obtain ⟨_, _, h⟩ := h; exact h.elim) ?first ?pass0 ?pass1 (fun _ _ h => h.elim)
  case pass0 =>
    rintro a wr ⟨n, i, out, ⟨hs_, hd, h0⟩, hT, hn, X, hi, hol, F⟩
    obtain ⟨u, hu⟩ : ∃ u : Nat → Value, Hid ((fun i => a.tmps.getD i undef) = u) := ⟨_, Lib.hid rfl⟩
    have ha : a = { tmps := #[u 0, u 1, u 2, u 3, u 4, u 5, u 6, u 7, u 8, u 9, u 10, u 11, u 12, u 13, u 14, u 15, u 16, u 17, u 18, u 19, u 20, u 21, u 22, u 23, u 24, u 25, u 26, u 27, u 28, u 29, u 30, u 31, u 32, u 33, u 34, u 35, u 36, u 37, u 38, u 39, u 40, u 41, u 42, u 43, u 44, u 45, u 46, u 47, u 48, u 49, u 50, u 51, u 52, u 53, u 54, u 55, u 56, u 57, u 58, u 59, u 60, u 61, u 62, u 63, u 64, u 65, u 66, u 67, u 68, u 69], defers := [] } := by
      rw [← hu.out]
      exact act_lit a 70 hs_ hd
    have e0 : u 0 = .pointer (some ⟨lb, 0, none⟩) := by rw [← hu.out]; exact h0
    rw [e0] at ha
    clear hu hs_ hd h0
    subst ha
    clear e0
    obtain ⟨n, rfl⟩ : ∃ m, n = m + 1 := ⟨n - 1, by omega⟩
    have hat := Lib.hid X.at
    have q0 := X.facts.1
    have q1 := X.facts.2.1
    have nlb := X.facts.2.2.1
    clear h hR
    by_cases hlt : i < s.size
    case neg =>
      obtain rfl : i = s.size := by omega
      have hRR : R = .inr out := by rw [← hT.out, List.drop_of_length_le (by simp)]; rfl
      have HRR := Lib.hid hRR
      clear hRR hT
      go_wp2_with (fail)
      refine wp_region_plan [([0, 1, 2, 3, 4, 5, 6, 7, 8, 9], [])] 70 (by kernel_rfl) (by kernel_rfl) (by simp) ?_
      intro N hN
      simp only [wpSegs, List.map_cons, List.map_nil, List.getD_cons_zero, List.getD_cons_succ]
      go_wp2_with (fail)
      rw [jump3_ret]
      go_ret
      exact ⟨.inr ⟨out, HRR.out, rfl, by omega, X.no (Frm.drew No _)⟩, F.trans (Frm.drew _ _)⟩
    have b0 : ((i : Int) == s.size) = false := by simp; omega
    have hdr := drop_at hlt
    have c256 : s[i].toNat < 256 := s[i].toNat_lt
    have hi5 : i ≤ 65536 := by omega
    have HI := Lib.hid (fun W => Tryz.strings_IndexByte ⟨#[9, 10, 13, 32, 44]⟩ s[i].toNat W)
    have him := idx_bl s[i]
    obtain ⟨x, hx⟩ : ∃ x, Hid (Lib.indexByte (⟨#[9, 10, 13, 32, 44]⟩ : ByteArray).data.toList ((s[i].toNat : Int).toNat.toUInt8) = x) := ⟨_, Lib.hid rfl⟩
    rw [hx.out] at HI him
    have FD2 : Frm No wr wr.drew.drew := (Frm.drew No wr).trans (Frm.drew No _)
    have X2 := X.no FD2
    have F2 := F.trans (FD2.mono (G := fun k => lb ≤ k) fun _ _ h => h.elim)
    have hE : Hid (R = if blB s[i] then lexL n (s.data.toList.drop (i + 1)) (i + 1) out else if s[i].toNat == 35 then lexL n ((s.data.toList.drop (i + 1)).drop ((s.data.toList.drop (i + 1)).takeWhile nlB).length) (i + 1 + ((s.data.toList.drop (i + 1)).takeWhile nlB).length) out else match tokL (s.data.toList.drop i) with
      | .inl e => .inl e
      | .inr (t, k) => lexL n ((s.data.toList.drop i).drop k) (i + k) (out ++ [{ t with pos := i }])) := Lib.hid (by rw [← hT.out, hdr]; rfl)
    clear hx hT
    rcases hbl : blB s[i] with _ | _
    case true =>
      rw [hbl] at him hE
      have b1 : 0 ≤ x := of_decide_eq_true him
      have hRR := Lib.hid (hE.out.trans (if_pos rfl))
      have zf := X2.facts
      obtain ⟨z0, z1, z2, z3⟩ := zf
      clear him hE hbl hdr
      go_wp2_with (fail)
      refine wp_region_plan [([0, 1, 2, 3, 4, 5, 6, 7, 8, 9], [])] 70 (by kernel_rfl) (by kernel_rfl) (by simp) ?_
      intro N hN
      simp only [wpSegs, List.map_cons, List.map_nil, List.getD_cons_zero, List.getD_cons_succ]
      go_wp2_with (fail)
      refine wp_region_plan [([0, 1, 2, 3, 4, 5, 6, 7, 8, 9], [])] 70 (by kernel_rfl) (by kernel_rfl) (by simp) ?_
      intro N2 hN2
      simp only [wpSegs, List.map_cons, List.map_nil, List.getD_cons_zero, List.getD_cons_succ]
      go_wp2_with (fail)
      refine (HI.out _).mono ?_
      rintro e w1 ⟨rfl, rfl⟩
      go_wp2_with (fail)
      go_step3
      have X3 := X2.step
      refine ⟨⟨n, i + 1, out, ⟨rfl, rfl, rfl⟩, Lib.hid hRR.out.symm, by omega, X3, hlt, by omega, F2.sc (Nat.le_refl _) _ _⟩, ?_⟩
      change 150000 * (70000 - atOf (wr.drew.drew.setCell ⟨lb, 1, none⟩ (.int .i64 ((i : Int) + 1))) lb) < _
      rw [X3.at, hat.out]
      omega
    rw [hbl] at him hE
    have b1 : ¬ 0 ≤ x := of_decide_eq_false him
    have hE2 := Lib.hid (hE.out.trans (if_neg (by decide)))
    clear him hE hbl
    by_cases k35 : s[i].toNat = 35
    · have b2 : ((s[i].toNat : Int) == 35) = true := by simp [k35]
      have hrs : runL nlB s i = i + 1 + ((s.data.toList.drop (i + 1)).takeWhile nlB).length := runL_step hlt (by unfold nlB; simp [k35])
      have hRR : Hid (lexL n (s.data.toList.drop (runL nlB s i)) (runL nlB s i) out = R) := Lib.hid (by
        rw [hE2.out, if_pos (by simp [k35]), hrs, List.drop_drop])
      have hle := (run_le (p := nlB) (s := s) (i := i + 1) hlt)
      have hge : i + 1 ≤ runL nlB s i := by omega
      have HGE := Lib.hid hge
      have hle2 : runL nlB s i ≤ s.size := by rw [runL_step hlt (by unfold nlB; simp [k35])]; exact hle.2
      have HLE := Lib.hid hle2
      clear hE2 hdr k35 hrs hle hge hle2
      go_wp2_with (fail)
      refine wp_region_plan [([0, 1, 2, 3, 4, 5, 6, 7, 8, 9], [])] 70 (by kernel_rfl) (by kernel_rfl) (by simp) ?_
      intro N hN
      simp only [wpSegs, List.map_cons, List.map_nil, List.getD_cons_zero, List.getD_cons_succ]
      go_wp2_with (fail)
      refine wp_region_plan [([0, 1, 2, 3, 4, 5, 6, 7, 8, 9], [])] 70 (by kernel_rfl) (by kernel_rfl) (by simp) ?_
      intro N2 hN2
      simp only [wpSegs, List.map_cons, List.map_nil, List.getD_cons_zero, List.getD_cons_succ]
      go_wp2_with (fail)
      refine (HI.out _).mono ?_
      rintro e w1 ⟨rfl, rfl⟩
      go_wp2_with (fail)
      go_step3
      refine ⟨⟨n, i, out, ⟨rfl, rfl, rfl⟩, hRR, by have := HGE.out; omega, X2, hi, hol, F2⟩, ?_⟩
      rw [X2.at, hat.out]
      have h1 := HGE.out
      have h2 := HLE.out
      omega
    have b2 : ((s[i].toNat : Int) == 35) = false := by simp; omega
    have hE3 := Lib.hid (hE2.out.trans (if_neg (by simpa using k35)))
    have HTK := token_ok X2 hlt hs (by omega)
    have hto := tokL_out s[i] (s.data.toList.drop (i + 1))
    rw [← hdr] at hto
    have hlen : (s.data.toList.drop i).length = s.size - i := by
      rw [List.length_drop]
      have : s.data.toList.length = s.size := Array.length_toList
      rw [this]
    have HLN := Lib.hid hlen
    clear hE2 hdr k35 hlen
    rcases hto with hto | ⟨t, k, hto, hk1, hk2⟩
    · obtain ⟨x1, hx1, hto⟩ : ∃ x1, (x1 = 1300 ∨ x1 = 1301) ∧ tokL (s.data.toList.drop i) = .inl x1 := by
        rcases hto with h | h
        · exact ⟨1300, .inl rfl, h⟩
        · exact ⟨1301, .inr rfl, h⟩
      rw [hto] at HTK hE3
      have HRR := Lib.hid (show R = .inl x1 from hE3.out)
      have b3 : (x1 != 0) = true := by rcases hx1 with rfl | rfl <;> rfl
      simp only [lexR] at HTK
      have HX1 := Lib.hid hx1
      clear hE3 hto hx1
      go_wp2_with (fail)
      refine wp_region_plan [([0, 1, 2, 3, 4, 5, 6, 7, 8, 9], [])] 70 (by kernel_rfl) (by kernel_rfl) (by simp) ?_
      intro N hN
      simp only [wpSegs, List.map_cons, List.map_nil, List.getD_cons_zero, List.getD_cons_succ]
      go_wp2_with (fail)
      refine wp_region_plan [([0, 1, 2, 3, 4, 5, 6, 7, 8, 9], [])] 70 (by kernel_rfl) (by kernel_rfl) (by simp) ?_
      intro N2 hN2
      simp only [wpSegs, List.map_cons, List.map_nil, List.getD_cons_zero, List.getD_cons_succ]
      go_wp2_with (fail)
      refine (HI.out _).mono ?_
      rintro e w1 ⟨rfl, rfl⟩
      go_wp2_with (fail)
      refine HTK.mono ?_
      rintro e w2 ⟨rfl, X3, f3⟩
      go_wp2_with (fail)
      rw [jump3_ret]
      go_ret
      exact ⟨.inl ⟨x1, HRR.out, HX1.out, rfl⟩, F2.trans f3⟩
    · rw [hto] at HTK hE3
      have HRR := Lib.hid (show R = lexL n ((s.data.toList.drop i).drop k) (i + k) (out ++ [{ t with pos := i }]) from hE3.out)
      simp only [lexR] at HTK
      clear hE3 hto
      go_wp2_with (fail)
      refine wp_region_plan [([0, 1, 2, 3, 4, 5, 6, 7, 8, 9], [])] 70 (by kernel_rfl) (by kernel_rfl) (by simp) ?_
      intro N hN
      simp only [wpSegs, List.map_cons, List.map_nil, List.getD_cons_zero, List.getD_cons_succ]
      go_wp2_with (fail)
      refine wp_region_plan [([0, 1, 2, 3, 4, 5, 6, 7, 8, 9], [])] 70 (by kernel_rfl) (by kernel_rfl) (by simp) ?_
      intro N2 hN2
      simp only [wpSegs, List.map_cons, List.map_nil, List.getD_cons_zero, List.getD_cons_succ]
      go_wp2_with (fail)
      refine (HI.out _).mono ?_
      rintro e w1 ⟨rfl, rfl⟩
      go_wp2_with (fail)
      refine HTK.mono ?_
      rintro e w2 ⟨rfl, X3, f3⟩
      go_wp2_with (fail)
      go_step3
      have hk3 : k ≤ s.size - i := by rw [← HLN.out]; exact hk2
      refine ⟨⟨n, i + k, out ++ [{ t with pos := i }], ⟨rfl, rfl, rfl⟩, Lib.hid (by rw [HRR.out, List.drop_drop]), by omega, X3, by omega, by simp; omega, F2.trans f3⟩, ?_⟩
      rw [X3.at, hat.out]
      omega
  case pass1 =>
    rintro a wr ⟨n, i, out, ⟨hs_, hd, h0⟩, hT, hn, X, hi, hol, F⟩
    obtain ⟨u, hu⟩ : ∃ u : Nat → Value, Hid ((fun i => a.tmps.getD i undef) = u) := ⟨_, Lib.hid rfl⟩
    have ha : a = { tmps := #[u 0, u 1, u 2, u 3, u 4, u 5, u 6, u 7, u 8, u 9, u 10, u 11, u 12, u 13, u 14, u 15, u 16, u 17, u 18, u 19, u 20, u 21, u 22, u 23, u 24, u 25, u 26, u 27, u 28, u 29, u 30, u 31, u 32, u 33, u 34, u 35, u 36, u 37, u 38, u 39, u 40, u 41, u 42, u 43, u 44, u 45, u 46, u 47, u 48, u 49, u 50, u 51, u 52, u 53, u 54, u 55, u 56, u 57, u 58, u 59, u 60, u 61, u 62, u 63, u 64, u 65, u 66, u 67, u 68, u 69], defers := [] } := by
      rw [← hu.out]
      exact act_lit a 70 hs_ hd
    have e0 : u 0 = .pointer (some ⟨lb, 0, none⟩) := by rw [← hu.out]; exact h0
    rw [e0] at ha
    clear hu hs_ hd h0
    subst ha
    clear e0
    have hat := Lib.hid X.at
    have q0 := X.facts.1
    have q1 := X.facts.2.1
    have nlb := X.facts.2.2.1
    have hi5 : i ≤ 65536 := by omega
    have FD : Frm No wr wr.drew := Frm.drew No wr
    have X2 := X.no FD
    have F2 := F.trans (FD.mono (G := fun k => lb ≤ k) fun _ _ h => h.elim)
    clear h hR
    by_cases hgo : ∃ h : i < s.size, s[i].toNat ≠ 10
    · obtain ⟨hlt, h10⟩ := hgo
      have b1 : ((s[i].toNat : Int) != 10) = true := by simp; omega
      have hst : runL nlB s i = runL nlB s (i + 1) := runL_step hlt (by unfold nlB; simp [h10])
      have hle := (run_le (p := nlB) (s := s) (i := i + 1) hlt)
      have HLE := Lib.hid hle
      have HST := Lib.hid hst
      have zf := X2.facts
      obtain ⟨z0, z1, z2, z3⟩ := zf
      clear hst hle h10
      go_wp2_with (fail)
      refine wp_region_plan [([0, 1, 2, 3, 4, 5, 6, 7, 8, 9, 10, 11, 12, 13, 14, 15, 16, 17, 18, 19, 20, 21], [])] 70 (by kernel_rfl) (by kernel_rfl) (by simp) ?_
      intro N hN
      simp only [wpSegs, List.map_cons, List.map_nil, List.getD_cons_zero, List.getD_cons_succ]
      go_wp2_with (fail)
      go_step3
      have X3 := X2.step
      refine ⟨⟨n, i + 1, out, ⟨rfl, rfl, rfl⟩, Lib.hid (by rw [← HST.out]; exact hT.out), by rw [← HST.out]; exact hn, X3, hlt, by omega, F2.sc (Nat.le_refl _) _ _⟩, ?_⟩
      change 150000 * (70000 - runL nlB s (atOf (wr.drew.setCell ⟨lb, 1, none⟩ (.int .i64 ((i : Int) + 1))) lb)) + 1 + (70000 - atOf (wr.drew.setCell ⟨lb, 1, none⟩ (.int .i64 ((i : Int) + 1))) lb) < _
      rw [X3.at, hat.out, ← HST.out]
      omega
    · have hst : runL nlB s i = i := runL_stop fun h => by
        have : s[i].toNat = 10 := Classical.byContradiction fun h' => hgo ⟨h, h'⟩
        unfold nlB
        simp [this]
      have HST := Lib.hid hst
      clear hst
      by_cases hlt : i < s.size
      · have h10 : s[i].toNat = 10 := Classical.byContradiction fun h' => hgo ⟨hlt, h'⟩
        have b1 : ((s[i].toNat : Int) != 10) = false := by simp [h10]
        clear hgo h10
        go_wp2_with (fail)
        refine wp_region_plan [([0, 1, 2, 3, 4, 5, 6, 7, 8, 9, 10, 11, 12, 13, 14, 15, 16, 17, 18, 19, 20, 21], [])] 70 (by kernel_rfl) (by kernel_rfl) (by simp) ?_
        intro N hN
        simp only [wpSegs, List.map_cons, List.map_nil, List.getD_cons_zero, List.getD_cons_succ]
        go_wp2_with (fail)
        go_step3
        refine ⟨⟨n, i, out, ⟨rfl, rfl, rfl⟩, Lib.hid (by have := hT.out; rw [HST.out] at this; exact this), by rw [HST.out] at hn; exact hn, X2, hi, hol, F2⟩, ?_⟩
        rw [X2.at, hat.out, HST.out]
        omega
      · have b0 : ¬ (i : Int) < s.size := by omega
        clear hgo
        go_wp2_with (fail)
        refine wp_region_plan [([0, 1, 2, 3, 4, 5, 6, 7, 8, 9, 10, 11, 12, 13, 14, 15, 16, 17, 18, 19, 20, 21], [])] 70 (by kernel_rfl) (by kernel_rfl) (by simp) ?_
        intro N hN
        simp only [wpSegs, List.map_cons, List.map_nil, List.getD_cons_zero, List.getD_cons_succ]
        go_wp2_with (fail)
        go_step3
        refine ⟨⟨n, i, out, ⟨rfl, rfl, rfl⟩, Lib.hid (by have := hT.out; rw [HST.out] at this; exact this), by rw [HST.out] at hn; exact hn, X2, hi, hol, F2⟩, ?_⟩
        rw [X2.at, hat.out, HST.out]
        omega
  case first =>
    intro pass
    have HPS := Lib.hid pass.1
    clear pass
    go_wp2_with (fail)
    go_step3
    simp only [Exit.then]
    rename_i hk
    refine hk _ _ (HPS.out _ _ ⟨_, 0, [], ⟨rfl, rfl, rfl⟩, hR, ?_, h, Nat.zero_le _, Nat.zero_le _, Frm.refl _ _⟩)
    have : s.data.toList.length = s.size := Array.length_toList
    omega
end Go.Proofs.YthaegncocdddfaaGreatDoor

/- The lexer, walked: Tokens. -/
namespace Go.Proofs.YthaegncocdddfaaGreatDoor
set_option linter.unusedVariables false
set_option linter.unusedSimpArgs false
open Go.RowKit Go.Lib Go.Tt
/-- What Tokens gives. -/
def TokEnd (w : World) (T : Int ⊕ List Tk) (e : Ending) (w' : World) : Prop :=
  (∃ x, T = .inl x ∧ x ≠ 0 ∧ e = .returned (.tuple #[.slice none 0 0, .int .i64 x])) ∨
  ∃ ts a n c, T = .inr ts ∧ ts.length ≤ 2048 ∧ e = .returned (.tuple #[.slice a n c, .int .i64 0]) ∧ Ow w' (fun k => w.heap.size ≤ k) 104 eTk (.slice a n c) ts
set_option maxHeartbeats 4000000 in
set_option maxRecDepth 100000 in
theorem tokens_ok (s : ByteArray) (w : World) (hs : s.size ≤ 9223372036854775807) :
    Calls Tryz.prog 20 #[.string s] w fun e w' => TokEnd w (tokensL s.data.toList) e w' ∧ Frm No w w' := by
  obtain ⟨T, hT⟩ : ∃ T, Hid (tokensL s.data.toList = T) := ⟨_, Lib.hid rfl⟩
  rw [hT.out]
  have hlen : s.data.toList.length = s.size := Array.length_toList
  by_cases hbig : 65536 < s.size
  · have h1 := Lib.hid (hT.out.symm.trans (show tokensL s.data.toList = .inl 1300 by
      unfold tokensL
      rw [if_pos (Nat.ble_eq_true_of_le (by omega))]))
    clear hT hlen
    have b1 : (65536 : Int) < s.size := by omega
    go_enter Tryz.func20, Tryz.ntmps20
    go_wp2_with (fail)
    go_ret2
    exact ⟨.inl ⟨1300, h1.out, by decide, rfl⟩, Frm.refl _ _⟩
  have hs' : s.size ≤ 65536 := by omega
  have b1 : ¬ (65536 : Int) < s.size := by omega
  have hX0 : LxAt (w.alloc (.cells #[.string s, .int .i64 0, .slice none 0 0] 100 (0, 0))) w.heap.size s 0 [] := ⟨none, 0, 0, heap_alloc_new w _, Ow.nil _ _ _ _ _⟩
  have hT1 : Hid (T = match lexL (s.data.toList.length + 1) s.data.toList 0 [] with
    | .inl e => .inl e
    | .inr ts => if Nat.ble 2049 ts.length then .inl 1302 else .inr ts) := Lib.hid (by
      rw [← hT.out]
      unfold tokensL
      rw [if_neg (fun h => by have := Nat.le_of_ble_eq_true h; omega)]
      rcases lexL (s.data.toList.length + 1) s.data.toList 0 [] with _ | _ <;> rfl)
  have HA := lall_ok hX0 hs'
  have F0 : Frm No w (w.alloc (.cells #[.string s, .int .i64 0, .slice none 0 0] 100 (0, 0))) := (Frm.refl No w).al _
  clear hT hlen hbig hX0
  go_enter Tryz.func20, Tryz.ntmps20
  go_wp2_with (fail)
  refine HA.mono ?_
  rintro e w1 ⟨hE, f1⟩
  have F1 : Frm No w w1 := F0.then f1 fun k hk h => by omega
  rcases hE with ⟨x, hx, hx1, rfl⟩ | ⟨ts, hx, rfl, hl, X1⟩
  · have h1 := Lib.hid (show T = .inl x by rw [hT1.out, hx])
    have b2 : (x != 0) = true := by rcases hx1 with rfl | rfl <;> rfl
    have HX1 := Lib.hid hx1
    clear hx hT1 hx1
    go_wp2_with (fail)
    go_ret2
    exact ⟨.inl ⟨x, h1.out, by rcases HX1.out with h | h <;> rw [h] <;> decide, rfl⟩, F1⟩
  · obtain ⟨a, n, c, hb, o⟩ := X1
    have q2 : w1.cell? ⟨w.heap.size, 2, none⟩ = some (.slice a n c) := obj_cell hb 2
    have nb := lt_of_block hb
    have hn := o.cap.1
    have HT2 : Hid (T = if Nat.ble 2049 ts.length then .inl 1302 else .inr ts) := Lib.hid (by rw [hT1.out, hx])
    clear hx hT1 hb
    by_cases hm : 2048 < ts.length
    · have h1 := Lib.hid (HT2.out.trans (if_pos (Nat.ble_eq_true_of_le hm)))
      have b2 : (2048 : Int) < n := by omega
      clear hn HT2 hm
      go_wp2_with (fail)
      go_ret2
      exact ⟨.inl ⟨1302, h1.out, by decide, rfl⟩, F1⟩
    · have h1 := Lib.hid (HT2.out.trans (if_neg (fun h => hm (by have := Nat.le_of_ble_eq_true h; omega))))
      have b2 : ¬ (2048 : Int) < n := by omega
      have HM := Lib.hid hm
      clear hn HT2 hm
      go_wp2_with (fail)
      go_ret2
      exact ⟨.inr ⟨ts, a, n, c, h1.out, by have := HM.out; omega, rfl, o.mono fun k _ h => Nat.le_of_lt h⟩, F1⟩
end Go.Proofs.YthaegncocdddfaaGreatDoor

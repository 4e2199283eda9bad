/- Merged: Lex6. -/
import Derived.Test.YthaegncocdddfaaGreatDoorK15
import Derived.Test.YthaegncocdddfaaGreatDoorK29
/- The lexer, walked: token (printed by gen_token.py). -/
namespace Go.Proofs.YthaegncocdddfaaGreatDoor
set_option linter.unusedVariables false
set_option linter.unusedSimpArgs false
set_option linter.unusedVariables false
set_option linter.unusedSimpArgs false
open Go.RowKit Go.Lib Go.Tt
set_option maxRecDepth 100000 in
theorem idx_mk (c : UInt8) : decide (0 ≤ Lib.indexByte (⟨#[123, 125, 40, 41, 58, 36, 64]⟩ : ByteArray).data.toList ((c.toNat : Int).toNat.toUInt8)) = mkB c := by
  have h : ∀ n : Fin 256, decide (0 ≤ Lib.indexByte [123, 125, 40, 41, 58, 36, 64] (UInt8.ofNat n)) = mkB (UInt8.ofNat n) := by decide
  have e : (c.toNat : Int).toNat.toUInt8 = c := by simp
  have := h ⟨c.toNat, c.toNat_lt⟩
  rw [e]
  simpa using this
set_option maxRecDepth 100000 in
theorem idx_bl (c : UInt8) : decide (0 ≤ Lib.indexByte (⟨#[9, 10, 13, 32, 44]⟩ : ByteArray).data.toList ((c.toNat : Int).toNat.toUInt8)) = blB c := by
  have h : ∀ n : Fin 256, decide (0 ≤ Lib.indexByte [9, 10, 13, 32, 44] (UInt8.ofNat n)) = blB (UInt8.ofNat n) := by decide
  have e : (c.toNat : Int).toNat.toUInt8 = c := by simp
  have := h ⟨c.toNat, c.toNat_lt⟩
  rw [e]
  simpa using this
theorem tokL_eq (c : UInt8) (r : List UInt8) : tokL (c :: r) = if fiB c then nmL (c :: r) else if c.toNat == 45 then nuL true r else if dgB c then nuL false (c :: r) else if c.toNat == 34 then txT (c :: r).length (txL r []) else if mkB c then .inr (⟨3, ⟨#[c]⟩, 0, 0⟩, 1) else if (c :: r).take 3 == [46, 46, 46] then .inr (⟨3, ⟨#[46, 46, 46]⟩, 0, 0⟩, 3) else .inl 1300 := by
  unfold tokL
  simp only
  cases txL r [] <;> rfl
theorem pre_dots (l : List UInt8) : Lib.hasPrefix l [46, 46, 46] = (l.take 3 == [46, 46, 46]) := by
  match l with
  | [] => decide
  | [a] => simp [Lib.hasPrefix, List.isPrefixOf]
  | [a, b] => simp [Lib.hasPrefix, List.isPrefixOf]
  | a :: b :: c :: r =>
    rw [Bool.eq_iff_iff]
    simp only [Lib.hasPrefix, List.isPrefixOf, List.take_succ_cons, List.take_zero, Bool.and_eq_true, beq_iff_eq, List.cons.injEq, and_true]
    exact ⟨fun h => ⟨h.1.symm, h.2.1.symm, h.2.2.symm⟩, fun h => ⟨h.1.symm, h.2.1.symm, h.2.2.symm⟩⟩
theorem cut_one {s : ByteArray} {i : Nat} (h : i < s.size) : s.extract i (i + 1) = ⟨#[s[i]]⟩ := by
  rw [cut_list, drop_at h, Nat.add_sub_cancel_left]
  rfl
set_option maxHeartbeats 8000000 in
set_option maxRecDepth 100000 in
theorem token_ok {w : World} {lb : Nat} {s : ByteArray} {i : Nat} {out : List Tk} (h : LxAt w lb s i out) (hi : i < s.size) (hs : s.size ≤ 65536) (hl : out.length ≤ 65536) :
    Calls Tryz.prog 68 #[.pointer (some ⟨lb, 0, none⟩)] w fun e w' => e = .returned (.int .i64 (lexR (tokL (s.data.toList.drop i)) i out).1) ∧ LxAt w' lb s (lexR (tokL (s.data.toList.drop i)) i out).2.1 (lexR (tokL (s.data.toList.drop i)) i out).2.2 ∧ Frm (fun k => lb ≤ k) w w' := by
  obtain ⟨Z, hZ⟩ : ∃ Z, Hid (lexR (tokL (s.data.toList.drop i)) i out = Z) := ⟨_, Lib.hid rfl⟩
  rw [hZ.out]
  have hdr := drop_at hi
  have hln : (s[i] :: s.data.toList.drop (i + 1)).length = s.size - i := by
    rw [← hdr, List.length_drop]
    have : s.data.toList.length = s.size := Array.length_toList
    rw [this]
  have hz := hZ.out.symm
  rw [hdr, tokL_eq, hln, ← hdr] at hz
  have HX := Lib.hid h
  have q0 : w.cell? ⟨lb, 0, none⟩ = some (.string s) := by obtain ⟨a, n, c, hb, -⟩ := h; exact obj_cell hb 0
  have q1 : w.cell? ⟨lb, 1, none⟩ = some (.int .i64 i) := by obtain ⟨a, n, c, hb, -⟩ := h; exact obj_cell hb 1
  have nlb : lb < w.heap.size := by obtain ⟨a, n, c, hb, -⟩ := h; exact lt_of_block hb
  have HF := Lib.hid (fun W => first_ok s[i].toNat W)
  have HD := Lib.hid (fun W => digit_c s[i] W)
  rw [firstB_fi] at HF
  have hi5 : i ≤ 65536 := by omega
  have c256 : s[i].toNat < 256 := s[i].toNat_lt
  have FD : Frm No w w.drew := Frm.drew No w
  rcases hf : fiB s[i] with _ | _
  case true =>
    rw [hf] at HF hz
    have hZZ := Lib.hid (hz.trans (by rw [if_pos rfl]))
    have HN := lname_ok (HX.out.no FD) hi hs hl hf
    clear hz hdr hln h hZ
    go_enter Tryz.func68, Tryz.ntmps68
    go_wp2_with (fail)
    refine wp_region_plan [([0, 1, 2, 3, 4, 5, 6, 7, 8, 9], [])] 77 (by kernel_rfl) (by kernel_rfl) (by simp) ?_
    intro N hN
    simp only [wpSegs, List.map_cons, List.map_nil, List.getD_cons_zero, List.getD_cons_succ]
    go_wp2_with (fail)
    refine (HF.out _).mono ?_
    rintro e w1 ⟨rfl, rfl⟩
    go_wp2_with (fail)
    refine HN.mono ?_
    rintro e w2 ⟨rfl, X2, f2⟩
    go_wp2_with (fail)
    go_ret
    rw [hZZ.out]
    exact ⟨rfl, X2, (FD.mono (G := fun k => lb ≤ k) fun _ _ h => h.elim).trans f2⟩
  rw [hf] at HF hz
  rw [if_neg (by decide)] at hz
  by_cases k1 : s[i].toNat = 45
  · have hZZ := Lib.hid (hz.trans (by rw [if_pos (by simp [k1])]))
    have HN := number_ok (HX.out.no FD) hi hs hl true (by simp [k1]) (fun h => by cases h)
    simp only [if_true] at HN
    have b1 : ((s[i].toNat : Int) == 45) = true := by simp [k1]
    clear hz hdr hln h hZ k1 hf
    go_enter Tryz.func68, Tryz.ntmps68
    go_wp2_with (fail)
    refine wp_region_plan [([0, 1, 2, 3, 4, 5, 6, 7, 8, 9], [])] 77 (by kernel_rfl) (by kernel_rfl) (by simp) ?_
    intro N hN
    simp only [wpSegs, List.map_cons, List.map_nil, List.getD_cons_zero, List.getD_cons_succ]
    go_wp2_with (fail)
    refine (HF.out _).mono ?_
    rintro e w1 ⟨rfl, rfl⟩
    go_wp2_with (fail)
    refine HN.mono ?_
    rintro e w2 ⟨rfl, X2, f2⟩
    go_wp2_with (fail)
    go_ret
    rw [hZZ.out]
    exact ⟨rfl, X2, (FD.mono (G := fun k => lb ≤ k) fun _ _ h => h.elim).trans f2⟩
  have b1 : ((s[i].toNat : Int) == 45) = false := by simp; omega
  rw [if_neg (by simpa using k1)] at hz
  rcases hd : dgB s[i] with _ | _
  case true =>
    rw [hd] at HD hz
    have hZZ := Lib.hid (hz.trans (by rw [if_pos rfl]))
    have HN := number_ok (HX.out.no FD) hi hs hl false (by simpa using k1) (fun _ => hd)
    simp only [Bool.false_eq_true, if_false, Nat.add_zero] at HN
    clear hz hdr hln h hZ k1 hf hd
    go_enter Tryz.func68, Tryz.ntmps68
    go_wp2_with (fail)
    refine wp_region_plan [([0, 1, 2, 3, 4, 5, 6, 7, 8, 9], [])] 77 (by kernel_rfl) (by kernel_rfl) (by simp) ?_
    intro N hN
    simp only [wpSegs, List.map_cons, List.map_nil, List.getD_cons_zero, List.getD_cons_succ]
    go_wp2_with (fail)
    refine (HF.out _).mono ?_
    rintro e w1 ⟨rfl, rfl⟩
    go_wp2_with (fail)
    refine (HD.out _).mono ?_
    rintro e w1 ⟨rfl, rfl⟩
    go_wp2_with (fail)
    refine HN.mono ?_
    rintro e w2 ⟨rfl, X2, f2⟩
    go_wp2_with (fail)
    go_ret
    rw [hZZ.out]
    exact ⟨rfl, X2, (FD.mono (G := fun k => lb ≤ k) fun _ _ h => h.elim).trans f2⟩
  rw [hd] at HD hz
  rw [if_neg (by decide)] at hz
  by_cases k2 : s[i].toNat = 34
  · have hZZ := Lib.hid (hz.trans (by rw [if_pos (by simp [k2])]))
    have HN := text_ok (HX.out.no FD) hi hs hl
    have b2 : ((s[i].toNat : Int) == 34) = true := by simp [k2]
    clear hz hdr hln h hZ k1 k2 hf hd
    go_enter Tryz.func68, Tryz.ntmps68
    go_wp2_with (fail)
    refine wp_region_plan [([0, 1, 2, 3, 4, 5, 6, 7, 8, 9], [])] 77 (by kernel_rfl) (by kernel_rfl) (by simp) ?_
    intro N hN
    simp only [wpSegs, List.map_cons, List.map_nil, List.getD_cons_zero, List.getD_cons_succ]
    go_wp2_with (fail)
    refine (HF.out _).mono ?_
    rintro e w1 ⟨rfl, rfl⟩
    go_wp2_with (fail)
    refine (HD.out _).mono ?_
    rintro e w1 ⟨rfl, rfl⟩
    go_wp2_with (fail)
    refine HN.mono ?_
    rintro e w2 ⟨rfl, X2, f2⟩
    go_wp2_with (fail)
    go_ret
    rw [hZZ.out]
    exact ⟨rfl, X2, (FD.mono (G := fun k => lb ≤ k) fun _ _ h => h.elim).trans f2⟩
  have b2 : ((s[i].toNat : Int) == 34) = false := by simp; omega
  rw [if_neg (by simpa using k2)] at hz
  have HI := Lib.hid (fun W => Tryz.strings_IndexByte ⟨#[123, 125, 40, 41, 58, 36, 64]⟩ s[i].toNat W)
  have him := idx_mk s[i]
  obtain ⟨x, hx⟩ : ∃ x, Hid (Lib.indexByte (⟨#[123, 125, 40, 41, 58, 36, 64]⟩ : ByteArray).data.toList ((s[i].toNat : Int).toNat.toUInt8) = x) := ⟨_, Lib.hid rfl⟩
  rw [hx.out] at HI him
  clear hx
  rcases hm : mkB s[i] with _ | _
  case true =>
    rw [hm] at him hz
    have b3 : 0 ≤ x := of_decide_eq_true him
    have hZZ : Hid (Z = (0, i + 1, out ++ [⟨3, ⟨#[s[i]]⟩, 0, i⟩])) := Lib.hid (hz.trans (by rw [if_pos rfl]; rfl))
    have HC := Lib.hid (cut_one hi)
    clear him hz hdr hln h hZ k1 k2 hf hd hm
    go_enter Tryz.func68, Tryz.ntmps68
    go_wp2_with (fail)
    refine wp_region_plan [([0, 1, 2, 3, 4, 5, 6, 7, 8, 9], [])] 77 (by kernel_rfl) (by kernel_rfl) (by simp) ?_
    intro N hN
    simp only [wpSegs, List.map_cons, List.map_nil, List.getD_cons_zero, List.getD_cons_succ]
    go_wp2_with (fail)
    refine (HF.out _).mono ?_
    rintro e w1 ⟨rfl, rfl⟩
    go_wp2_with (fail)
    refine (HD.out _).mono ?_
    rintro e w1 ⟨rfl, rfl⟩
    go_wp2_with (fail)
    refine (HI.out _).mono ?_
    rintro e w1 ⟨rfl, rfl⟩
    go_wp2_with (fail)
    have q0d := q0
    refine wp_region_fork (.seg [0, 1, 2, 3, 4, 5, 6, 7, 8, 9, 10, 11, 12, 16, 17, 18, 19] [] (.fork 13 [19, 8, 4] (.seg [14] [] (.fork 15 [19] (.seg [20] [] (.seg [21] [] (.seg [22] [] .nil))) 20 [8, 4] (.seg [15] [] (.seg [21] [] (.seg [22] [] .nil))))) 20 [12, 8, 4] (.seg [13] [8, 4] (.seg [14, 15] [] (.seg [21] [] (.seg [22] [] .nil)))))) 77 (by kernel_rfl) (by kernel_rfl) (by simp) ?_
    intro N' hN'
    simp only [wpST, wpSg, List.map_cons, List.map_nil, List.getD_cons_zero, List.getD_cons_succ]
    go_wp2_with (fail)
    have hcx := HC.out
    have FD2 : Frm No w w.drew.drew := (Frm.drew No w).trans (Frm.drew No _)
    refine ⟨?_, ?_⟩
    · go_wp2_with (fail)
      refine ⟨again_cons (again_of rfl rfl ?_) (again_cons (again_of rfl rfl ?_) (again_cons (again_of rfl rfl ?_) again_nil)), ?_⟩
      · go_simp
      · go_simp
      · go_simp
      go_wp2_with (fail)
      refine ⟨?_, ?_⟩
      · go_wp2_with (fail)
        refine ⟨again_cons (again_of rfl rfl ?_) again_nil, ?_⟩
        · go_simp
        go_wp2_with (fail)
        refine (add_ok (HX.out.no FD2) ⟨3, ⟨#[s[i]]⟩, 0, 0⟩ (i + 1) hl).mono ?_
        rintro e w3 ⟨rfl, X3, f3⟩
        go_wp2_with (fail)
        go_ret
        rw [hZZ.out]
        exact ⟨rfl, X3, (FD2.mono (G := fun k => lb ≤ k) fun _ _ h => h.elim).trans f3⟩
      · go_wp2_with (fail)
        refine ⟨again_cons (again_of rfl rfl ?_) (again_cons (again_of rfl rfl ?_) again_nil), ?_⟩
        · go_simp
        · go_simp
        go_wp2_with (fail)
        refine (add_ok (HX.out.no FD2) ⟨3, ⟨#[s[i]]⟩, 0, 0⟩ (i + 1) hl).mono ?_
        rintro e w3 ⟨rfl, X3, f3⟩
        go_wp2_with (fail)
        go_ret
        rw [hZZ.out]
        exact ⟨rfl, X3, (FD2.mono (G := fun k => lb ≤ k) fun _ _ h => h.elim).trans f3⟩
    · go_wp2_with (fail)
      refine ⟨again_cons (again_of rfl rfl ?_) (again_cons (again_of rfl rfl ?_) (again_cons (again_of rfl rfl ?_) again_nil)), ?_⟩
      · go_simp
      · go_simp
      · go_simp
      go_wp2_with (fail)
      refine ⟨again_cons (again_of rfl rfl ?_) (again_cons (again_of rfl rfl ?_) again_nil), ?_⟩
      · go_simp
      · go_simp
      go_wp2_with (fail)
      refine (add_ok (HX.out.no FD2) ⟨3, ⟨#[s[i]]⟩, 0, 0⟩ (i + 1) hl).mono ?_
      rintro e w3 ⟨rfl, X3, f3⟩
      go_wp2_with (fail)
      go_ret
      rw [hZZ.out]
      exact ⟨rfl, X3, (FD2.mono (G := fun k => lb ≤ k) fun _ _ h => h.elim).trans f3⟩
  rw [hm] at him hz
  have b3 : ¬ 0 ≤ x := of_decide_eq_false him
  rw [if_neg (by decide)] at hz
  have HP := Lib.hid (fun W => Tryz.strings_HasPrefix (s.extract i s.size) ⟨#[46, 46, 46]⟩ W)
  have hpe : Lib.hasPrefix (s.extract i s.size).data.toList (⟨#[46, 46, 46]⟩ : ByteArray).data.toList = ((s.data.toList.drop i).take 3 == [46, 46, 46]) := by
    rw [cut_list]
    have : (s.data.toList.drop i).take (s.size - i) = s.data.toList.drop i := by
      apply List.take_of_length_le
      rw [List.length_drop]
      have : s.data.toList.length = s.size := Array.length_toList
      omega
    rw [this]
    exact pre_dots _
  rw [hpe] at HP
  rcases hb : ((s.data.toList.drop i).take 3 == [46, 46, 46]) with _ | _
  case true =>
    rw [hb] at HP hz
    have hZZ : Hid (Z = (0, i + 3, out ++ [⟨3, ⟨#[46, 46, 46]⟩, 0, i⟩])) := Lib.hid (hz.trans (by rw [if_pos rfl]; rfl))
    clear him hz hdr hln h hZ k1 k2 hf hd hm hpe hb
    go_enter Tryz.func68, Tryz.ntmps68
    go_wp2_with (fail)
    refine wp_region_plan [([0, 1, 2, 3, 4, 5, 6, 7, 8, 9], [])] 77 (by kernel_rfl) (by kernel_rfl) (by simp) ?_
    intro N hN
    simp only [wpSegs, List.map_cons, List.map_nil, List.getD_cons_zero, List.getD_cons_succ]
    go_wp2_with (fail)
    refine (HF.out _).mono ?_
    rintro e w1 ⟨rfl, rfl⟩
    go_wp2_with (fail)
    refine (HD.out _).mono ?_
    rintro e w1 ⟨rfl, rfl⟩
    go_wp2_with (fail)
    refine (HI.out _).mono ?_
    rintro e w1 ⟨rfl, rfl⟩
    go_wp2_with (fail)
    refine wp_region_plan [([0, 1, 2, 3, 4, 5, 6, 7, 8, 9, 10], [])] 77 (by kernel_rfl) (by kernel_rfl) (by simp) ?_
    intro N' hN'
    simp only [wpSegs, List.map_cons, List.map_nil, List.getD_cons_zero, List.getD_cons_succ]
    go_wp2_with (fail)
    refine (HP.out _).mono ?_
    rintro e w1 ⟨rfl, rfl⟩
    have FD2 : Frm No w w.drew.drew := (Frm.drew No w).trans (Frm.drew No _)
    go_wp2_with (fail)
    refine (add_ok (HX.out.no FD2) ⟨3, ⟨#[46, 46, 46]⟩, 0, 0⟩ (i + 3) hl).mono ?_
    rintro e w3 ⟨rfl, X3, f3⟩
    go_wp2_with (fail)
    go_ret
    rw [hZZ.out]
    exact ⟨rfl, X3, (FD2.mono (G := fun k => lb ≤ k) fun _ _ h => h.elim).trans f3⟩
  rw [hb] at HP hz
  have hZZ : Hid (Z = (1300, i, out)) := Lib.hid (hz.trans (by rw [if_neg (by decide)]; rfl))
  clear him hz hdr hln h hZ k1 k2 hf hd hm hpe hb
  go_enter Tryz.func68, Tryz.ntmps68
  go_wp2_with (fail)
  refine wp_region_plan [([0, 1, 2, 3, 4, 5, 6, 7, 8, 9], [])] 77 (by kernel_rfl) (by kernel_rfl) (by simp) ?_
  intro N hN
  simp only [wpSegs, List.map_cons, List.map_nil, List.getD_cons_zero, List.getD_cons_succ]
  go_wp2_with (fail)
  refine (HF.out _).mono ?_
  rintro e w1 ⟨rfl, rfl⟩
  go_wp2_with (fail)
  refine (HD.out _).mono ?_
  rintro e w1 ⟨rfl, rfl⟩
  go_wp2_with (fail)
  refine (HI.out _).mono ?_
  rintro e w1 ⟨rfl, rfl⟩
  go_wp2_with (fail)
  refine wp_region_plan [([0, 1, 2, 3, 4, 5, 6, 7, 8, 9, 10], [])] 77 (by kernel_rfl) (by kernel_rfl) (by simp) ?_
  intro N' hN'
  simp only [wpSegs, List.map_cons, List.map_nil, List.getD_cons_zero, List.getD_cons_succ]
  go_wp2_with (fail)
  refine (HP.out _).mono ?_
  rintro e w1 ⟨rfl, rfl⟩
  have FD2 : Frm No w w.drew.drew := (Frm.drew No w).trans (Frm.drew No _)
  go_wp2_with (fail)
  go_ret
  rw [hZZ.out]
  exact ⟨rfl, HX.out.no FD2, FD2.mono (G := fun k => lb ≤ k) fun _ _ h => h.elim⟩
end Go.Proofs.YthaegncocdddfaaGreatDoor

/- Merged: Lex4. -/
import Derived.Test.YthaegncocdddfaaGreatDoorK27
/- The lexer, walked: number. -/
namespace Go.Proofs.YthaegncocdddfaaGreatDoor
set_option linter.unusedVariables false
set_option linter.unusedSimpArgs false
set_option linter.unusedVariables false
set_option linter.unusedSimpArgs false
open Go.RowKit Go.Lib Go.Tt
theorem dig_val {b : UInt8} (h : dgB b = true) : ∃ d, Lib.digitVal b = some d := by
  unfold dgB at h
  simp only [Bool.and_eq_true, Nat.ble_eq] at h
  exact ⟨_, if_pos h⟩
theorem dec_some : ∀ (l : List UInt8) (acc : Nat), (∀ x ∈ l, dgB x = true) → ∃ n, Lib.decFrom acc l = some n
  | [], acc, _ => ⟨acc, rfl⟩
  | b :: l, acc, h => by
    obtain ⟨d, hd⟩ := dig_val (h b (by simp))
    obtain ⟨n, hn⟩ := dec_some l (acc * 10 + d) fun x hx => h x (by simp [hx])
    exact ⟨n, by unfold Lib.decFrom; rw [hd]; exact hn⟩
theorem atoi_some {neg : Bool} {ds : List UInt8} (h : ∀ x ∈ ds, dgB x = true) (h0 : ds ≠ []) : ∃ n, Lib.atoi ((if neg then [45] else []) ++ ds) = some n := by
  obtain ⟨m, hm⟩ := dec_some ds 0 h
  have hd : Lib.decNat ds = some m := by
    unfold Lib.decNat
    cases ds with
    | nil => exact absurd rfl h0
    | cons b l => exact hm
  cases neg with
  | true => exact ⟨-(m : Int), by show (Lib.decNat ds).map _ = _; rw [hd]; rfl⟩
  | false =>
    cases ds with
    | nil => exact absurd rfl h0
    | cons b l =>
      have hb := h b (by simp)
      unfold dgB at hb
      simp only [Bool.and_eq_true, Nat.ble_eq] at hb
      have h45 : (b == 45) = false := by
        apply beq_eq_false_iff_ne.2
        rintro rfl
        exact absurd hb.1 (by decide)
      have h43 : (b == 43) = false := by
        apply beq_eq_false_iff_ne.2
        rintro rfl
        exact absurd hb.1 (by decide)
      refine ⟨m, ?_⟩
      show (if (b == 45) = true then _ else if (b == 43) = true then _ else _) = _
      rw [h45, h43, if_neg (by decide), if_neg (by decide), hd]
      rfl
theorem bytesW (w : World) (e : TypeId) (t : ByteArray) : Frm No w (Lib.bytesWorld w e t) := by
  unfold Lib.bytesWorld
  exact (Frm.of_below (B := w.heap.size) (Lib.below_freeze ((Below.drew (Below.refl _ w)).alloc (Nat.le_refl _) _) (p := ⟨w.heap.size, _, none⟩) (Nat.le_refl _) _)).mono fun k hk h => absurd hk (Nat.not_lt.2 h)
/-- Is the next byte one of a name's? -/
def nxtW (l : List UInt8) : Bool := (l.head?.map wdB).getD false
theorem run_next {s : ByteArray} {j : Nat} (hj : j ≤ s.size) : (decide ((runL wdB s j : Int) > j)) = nxtW (s.data.toList.drop j) := by
  rcases Nat.lt_or_ge j s.size with h | h
  · rw [drop_at h]
    show _ = wdB s[j]
    rcases hw : wdB s[j] with _ | _
    · rw [runL_stop fun _ => hw]
      simp
    · rw [runL_step h hw]
      have := (run_le (p := wdB) (s := s) (i := j + 1) h).1
      simp; omega
  · rw [runL_stop fun h' => absurd h' (by omega), List.drop_of_length_le (by simpa using h)]
    simp [nxtW]
theorem nuL_eq (neg : Bool) (r : List UInt8) : nuL neg r = if ((r.takeWhile dgB).length == 0 || Nat.ble 16 (r.takeWhile dgB).length || nxtW (r.drop (r.takeWhile dgB).length)) = true then .inl 1300
    else .inr (⟨1, noTx, (Lib.atoi ((if neg then [45] else []) ++ r.takeWhile dgB)).getD 0, 0⟩, (r.takeWhile dgB).length + if neg then 1 else 0) := rfl
set_option maxHeartbeats 8000000 in
set_option maxRecDepth 100000 in
theorem number_ok {w : World} {lb : Nat} {s : ByteArray} {i : Nat} {out : List Tk} (h : LxAt w lb s i out) (hi : i < s.size) (hs : s.size ≤ 65536) (hl : out.length ≤ 65536) (neg : Bool) (hneg : (s[i].toNat == 45) = neg) (hd : neg = false → dgB s[i] = true) :
    Calls Tryz.prog 87 #[.pointer (some ⟨lb, 0, none⟩)] w fun e w' => e = .returned (.int .i64 (lexR (nuL neg (s.data.toList.drop (i + if neg then 1 else 0))) i out).1) ∧ LxAt w' lb s (lexR (nuL neg (s.data.toList.drop (i + if neg then 1 else 0))) i out).2.1 (lexR (nuL neg (s.data.toList.drop (i + if neg then 1 else 0))) i out).2.2 ∧ Frm (fun k => lb ≤ k) w w' := by
  obtain ⟨R, hR⟩ : ∃ R, Hid (lexR (nuL neg (s.data.toList.drop (i + if neg then 1 else 0))) i out = R) := ⟨_, Lib.hid rfl⟩
  rw [hR.out]
  obtain ⟨f, hf⟩ : ∃ f, Hid (i + (if neg then 1 else 0) = f) := ⟨_, Lib.hid rfl⟩
  have hfi : i ≤ f ∧ f ≤ i + 1 := by rw [← hf.out]; cases neg <;> simp
  have hfs : f ≤ s.size := by omega
  rw [hf.out] at hR
  obtain ⟨ds, hds⟩ : ∃ ds, Hid ((s.data.toList.drop f).takeWhile dgB = ds) := ⟨_, Lib.hid rfl⟩
  obtain ⟨j, hj⟩ : ∃ j, Hid (runL dgB s f = j) := ⟨_, Lib.hid rfl⟩
  have hle := @run_le dgB s f hfs
  have hjl : runL dgB s f = f + ((s.data.toList.drop f).takeWhile dgB).length := rfl
  rw [hj.out] at hle
  rw [hj.out, hds.out] at hjl
  have hdd : (s.data.toList.drop f).drop ds.length = s.data.toList.drop j := by rw [List.drop_drop, hjl]
  have hR2 : Hid (R = lexR (if (ds.length == 0 || Nat.ble 16 ds.length || nxtW (s.data.toList.drop j)) = true then .inl 1300 else .inr (⟨1, noTx, (Lib.atoi ((if neg then [45] else []) ++ ds)).getD 0, 0⟩, ds.length + if neg then 1 else 0)) i out) := Lib.hid (by rw [← hR.out, nuL_eq, hds.out, hdd])
  have hall : ∀ x ∈ ds, dgB x = true := by rw [← hds.out]; exact fun x hx => tw_all _ _ x hx
  have R1 := run_dig h f hfs hs
  have R2 := run_word h j hle.2 hs
  have hnx := run_next (s := s) hle.2
  rw [hj.out] at R1
  obtain ⟨e2, he2⟩ : ∃ e2, Hid (runL wdB s j = e2) := ⟨_, Lib.hid rfl⟩
  rw [he2.out] at R2 hnx
  have hcut : s.extract i j = ⟨((if neg then [45] else []) ++ ds).toArray⟩ := by
    rw [cut_list]
    congr 2
    have hds' : ds = (s.data.toList.drop f).take (j - f) := by
      rw [← hds.out, tw_take dgB (s.data.toList.drop f), hds.out, hjl, Nat.add_sub_cancel_left]
    cases neg with
    | false =>
      have hf' := hf.out
      simp only [Bool.false_eq_true, if_false, Nat.add_zero] at hf'
      rw [hf', hds']
      rfl
    | true =>
      have hf' := hf.out
      simp only [if_true] at hf'
      have h45 : s[i] = 45 := by
        have : s[i].toNat = 45 := by simpa using hneg
        exact UInt8.toNat_inj.1 this
      rw [drop_at hi, h45, hf', show j - i = (j - f) + 1 by omega, List.take_succ_cons, ← hds']
      rfl
  have hjn : j ≤ s.size := hle.2
  have hfj : f ≤ j := hle.1
  obtain ⟨a, n, c, hb, o⟩ := h
  have q0 : w.cell? ⟨lb, 0, none⟩ = some (.string s) := obj_cell hb 0
  have q1 : w.cell? ⟨lb, 1, none⟩ = some (.int .i64 i) := obj_cell hb 1
  have nb := lt_of_block hb
  have HX : Hid (LxAt w lb s i out) := Lib.hid ⟨a, n, c, hb, o⟩
  have hng : ((s[i].toNat : Int) == 45) = neg := by
    rw [← hneg, Bool.eq_iff_iff]
    simp
    omega
  have HC := Lib.hid hcut
  have HA := Lib.hid hall
  have HJ := Lib.hid hjl
  have hnx' := Lib.hid hnx
  have hf1 : f ≤ 65536 := by omega
  have hj1 : j ≤ 65536 := by omega
  have hHF := Lib.hid hf.out
  clear hb o hcut hall hjl hnx hR hds hj he2 hle hdd hneg hd
  cases neg
  · have hif : i = f := by have := hHF.out; simpa using this
    subst hif
    by_cases k1 : ds.length = 0
    · have hRR := Lib.hid (hR2.out.trans (by rw [if_pos (by simp [k1])]; rfl : _ = ((1300, i, out) : Int × Nat × List Tk)))
      have b1 : ((j : Int) == i) = true := by have := HJ.out; simp; omega
      clear hR2 k1
      go_enter Tryz.func87, Tryz.ntmps87
      go_wp2_with (fail)
      refine R1.mono ?_
      rintro e w1 ⟨rfl, rfl⟩
      go_wp2_with (fail)
      go_ret
      rw [hRR.out]
      exact ⟨rfl, HX.out, Frm.refl _ _⟩
    have b1 : ((j : Int) == i) = false := by have := HJ.out; simp; omega
    by_cases k2 : 16 ≤ ds.length
    · have hRR := Lib.hid (hR2.out.trans (by rw [if_pos (by simp [k2])]; rfl : _ = ((1300, i, out) : Int × Nat × List Tk)))
      have b2 : (15 : Int) < (j : Int) - i := by have := HJ.out; omega
      clear hR2 k2
      go_enter Tryz.func87, Tryz.ntmps87
      go_wp2_with (fail)
      refine R1.mono ?_
      rintro e w1 ⟨rfl, rfl⟩
      go_wp2_with (fail)
      go_ret
      rw [hRR.out]
      exact ⟨rfl, HX.out, Frm.refl _ _⟩
    have b2 : ¬ (15 : Int) < (j : Int) - i := by have := HJ.out; omega
    have k16 : Nat.ble 16 ds.length = false := by
      rcases h : Nat.ble 16 ds.length with _ | _
      · rfl
      · exact absurd (Nat.le_of_ble_eq_true h) k2
    rcases k3 : nxtW (s.data.toList.drop j) with _ | _
    · have hRR := Lib.hid (hR2.out.trans (by rw [if_neg (by simp [k1, k16, k3])]))
      have b3 : ¬ (j : Int) < e2 := by have := hnx'.out; rw [k3] at this; simpa using this
      obtain ⟨n0, hn0⟩ := atoi_some (neg := false) HA.out (fun h => k1 (by rw [h]; rfl))
      have HN0 := Lib.hid hn0
      have HAT := Lib.hid (fun W => Tryz.strconv_Atoi (s.extract i j) n0 (by rw [HC.out]; show (List.toArray _).size ≤ 18; simp; omega) (by rw [HC.out]; exact hn0) W)
      have hij : i ≤ j := by omega
      clear hR2 k1 k2 k3 k16 hn0
      go_enter Tryz.func87, Tryz.ntmps87
      go_wp2_with (fail)
      refine R1.mono ?_
      rintro e w1 ⟨rfl, rfl⟩
      go_wp2_with (fail)
      refine R2.mono ?_
      rintro e w1 ⟨rfl, rfl⟩
      go_wp2_with (fail)
      refine wp_region_plan [([0, 1, 2, 3, 4, 5, 6, 7, 8, 9, 10, 11, 12, 13, 14, 15], [])] 58 (by kernel_rfl) (by kernel_rfl) (by simp) ?_
      intro N hN
      simp only [wpSegs, List.map_cons, List.map_nil, List.getD_cons_zero, List.getD_cons_succ]
      go_wp2_with (fail)
      refine (HAT.out _).mono ?_
      rintro e w2 ⟨rfl, tt, rfl⟩
      have F2 := (Frm.drew No w).trans (bytesW w.drew 5 tt)
      go_wp2_with (fail)
      refine (add_ok (HX.out.no F2) ⟨1, noTx, n0, 0⟩ j hl).mono ?_
      rintro e w3 ⟨rfl, X3, f3⟩
      go_wp2_with (fail)
      go_ret
      rw [hRR.out, HN0.out]
      refine ⟨rfl, ?_, (F2.mono (G := fun k => lb ≤ k) fun _ _ h => h.elim).trans f3⟩
      have e1 : j = i + (ds.length + if (false) = true then 1 else 0) := by have h1 := HJ.out; have h2 := hHF.out; simp at h2 ⊢; omega
      rw [e1] at X3
      exact X3
    · have hRR := Lib.hid (hR2.out.trans (by rw [if_pos (by simp [k3])]; rfl : _ = ((1300, i, out) : Int × Nat × List Tk)))
      have b3 : (j : Int) < e2 := by have := hnx'.out; rw [k3] at this; simpa using this
      clear hR2 k1 k2 k3 k16
      go_enter Tryz.func87, Tryz.ntmps87
      go_wp2_with (fail)
      refine R1.mono ?_
      rintro e w1 ⟨rfl, rfl⟩
      go_wp2_with (fail)
      refine R2.mono ?_
      rintro e w1 ⟨rfl, rfl⟩
      go_wp2_with (fail)
      go_ret
      rw [hRR.out]
      exact ⟨rfl, HX.out, Frm.refl _ _⟩
  · have hfc : (i : Int) + 1 = (f : Int) := by have := hHF.out; simp at this; omega
    by_cases k1 : ds.length = 0
    · have hRR := Lib.hid (hR2.out.trans (by rw [if_pos (by simp [k1])]; rfl : _ = ((1300, i, out) : Int × Nat × List Tk)))
      have b1 : ((j : Int) == f) = true := by have := HJ.out; simp; omega
      clear hR2 k1
      go_enter Tryz.func87, Tryz.ntmps87
      go_wp2_with (fail)
      refine R1.mono ?_
      rintro e w1 ⟨rfl, rfl⟩
      go_wp2_with (fail)
      go_ret
      rw [hRR.out]
      exact ⟨rfl, HX.out, Frm.refl _ _⟩
    have b1 : ((j : Int) == f) = false := by have := HJ.out; simp; omega
    by_cases k2 : 16 ≤ ds.length
    · have hRR := Lib.hid (hR2.out.trans (by rw [if_pos (by simp [k2])]; rfl : _ = ((1300, i, out) : Int × Nat × List Tk)))
      have b2 : (15 : Int) < (j : Int) - f := by have := HJ.out; omega
      clear hR2 k2
      go_enter Tryz.func87, Tryz.ntmps87
      go_wp2_with (fail)
      refine R1.mono ?_
      rintro e w1 ⟨rfl, rfl⟩
      go_wp2_with (fail)
      go_ret
      rw [hRR.out]
      exact ⟨rfl, HX.out, Frm.refl _ _⟩
    have b2 : ¬ (15 : Int) < (j : Int) - f := by have := HJ.out; omega
    have k16 : Nat.ble 16 ds.length = false := by
      rcases h : Nat.ble 16 ds.length with _ | _
      · rfl
      · exact absurd (Nat.le_of_ble_eq_true h) k2
    rcases k3 : nxtW (s.data.toList.drop j) with _ | _
    · have hRR := Lib.hid (hR2.out.trans (by rw [if_neg (by simp [k1, k16, k3])]))
      have b3 : ¬ (j : Int) < e2 := by have := hnx'.out; rw [k3] at this; simpa using this
      obtain ⟨n0, hn0⟩ := atoi_some (neg := true) HA.out (fun h => k1 (by rw [h]; rfl))
      have HN0 := Lib.hid hn0
      have HAT := Lib.hid (fun W => Tryz.strconv_Atoi (s.extract i j) n0 (by rw [HC.out]; show (List.toArray _).size ≤ 18; simp; omega) (by rw [HC.out]; exact hn0) W)
      have hij : i ≤ j := by omega
      clear hR2 k1 k2 k3 k16 hn0
      go_enter Tryz.func87, Tryz.ntmps87
      go_wp2_with (fail)
      refine R1.mono ?_
      rintro e w1 ⟨rfl, rfl⟩
      go_wp2_with (fail)
      refine R2.mono ?_
      rintro e w1 ⟨rfl, rfl⟩
      go_wp2_with (fail)
      refine wp_region_plan [([0, 1, 2, 3, 4, 5, 6, 7, 8, 9, 10, 11, 12, 13, 14, 15], [])] 58 (by kernel_rfl) (by kernel_rfl) (by simp) ?_
      intro N hN
      simp only [wpSegs, List.map_cons, List.map_nil, List.getD_cons_zero, List.getD_cons_succ]
      go_wp2_with (fail)
      refine (HAT.out _).mono ?_
      rintro e w2 ⟨rfl, tt, rfl⟩
      have F2 := (Frm.drew No w).trans (bytesW w.drew 5 tt)
      go_wp2_with (fail)
      refine (add_ok (HX.out.no F2) ⟨1, noTx, n0, 0⟩ j hl).mono ?_
      rintro e w3 ⟨rfl, X3, f3⟩
      go_wp2_with (fail)
      go_ret
      rw [hRR.out, HN0.out]
      refine ⟨rfl, ?_, (F2.mono (G := fun k => lb ≤ k) fun _ _ h => h.elim).trans f3⟩
      have e1 : j = i + (ds.length + if (true) = true then 1 else 0) := by have h1 := HJ.out; have h2 := hHF.out; simp at h2 ⊢; omega
      rw [e1] at X3
      exact X3
    · have hRR := Lib.hid (hR2.out.trans (by rw [if_pos (by simp [k3])]; rfl : _ = ((1300, i, out) : Int × Nat × List Tk)))
      have b3 : (j : Int) < e2 := by have := hnx'.out; rw [k3] at this; simpa using this
      clear hR2 k1 k2 k3 k16
      go_enter Tryz.func87, Tryz.ntmps87
      go_wp2_with (fail)
      refine R1.mono ?_
      rintro e w1 ⟨rfl, rfl⟩
      go_wp2_with (fail)
      refine R2.mono ?_
      rintro e w1 ⟨rfl, rfl⟩
      go_wp2_with (fail)
      go_ret
      rw [hRR.out]
      exact ⟨rfl, HX.out, Frm.refl _ _⟩
end Go.Proofs.YthaegncocdddfaaGreatDoor

/- tattlelaw20.DiskForms answers true, for every input. -/
import Derived.Test.YtheejjifcpjdbaaAwake20
import Derived.Test.YtheejjifcpjdbaaView
namespace Go.Proofs.Ytheejjifcpjdbaa
open Go.RowKit Go.Lib Go.Tt
set_option maxHeartbeats 2000000 in
set_option maxRecDepth 100000 in
theorem forms_walk (size x : Int) (w : World) : Calls Try.prog 6 #[.int .i64 size, .int .i64 x] w fun e w' => e = .returned (.bool true) ∧ Below w.heap.size w w' := by
  obtain ⟨a, ha, a1⟩ := mask_nat 63 x _ (and_63 x)
  obtain ⟨c, hc, c1⟩ := mask_nat 255 size _ (and_255 size)
  go_enter Try.func6, Try.ntmps6
  go_wp2_with (fail)
  refine (awake20 _).mono ?_
  rintro e w0 ⟨rfl, f0⟩
  have b0 := f0.size
  go_wp2_with (fail)
  refine (new_no _ _ (.inl (by omega))).mono ?_
  rintro e w' ⟨rfl, rfl⟩
  go_wp2_with (fail)
  refine (new_no _ _ (.inr (by omega))).mono ?_
  rintro e w' ⟨rfl, rfl⟩
  go_wp2_with (fail)
  refine (new_ok _ _ (by omega) (by omega)).mono ?_
  rintro e w1 ⟨rfl, K1, f1, z1⟩
  replace K1 : DiskIs w1 (G w.heap.size No) w0.heap.size ⟨64 + c, false, [], []⟩ := K1.mono fun k hk h => ⟨by omega, id⟩
  have b1 : w.heap.size ≤ w1.heap.size := by omega
  go_wp2_with (first | (go_at_call 23; refine (num_any _ _).mono ?_; rintro e w' ⟨rfl, rfl⟩) | (at_make; refine wpList_mk1 _ rfl _ _ 47 rfl 5 (.int .u8 0) 1 Try.underlying47 Try.info_u8 rfl _ _ _ _ (64 + c) rfl rfl (by omega) (by omega) (by omega) (by unfold maxLen; omega) ?_))
  intro w2 o2 g2
  have c2 := conv_zeros o2
  have K2 := G_frm K1 (grown_no g2)
  have b2 := Nat.le_trans b1 (grown_no g2).size
  obtain ⟨Z, hZ, hz⟩ : ∃ Z : List UInt8, Z = List.replicate (64 + c) 0 ∧ Z.length = 64 + c := ⟨_, rfl, List.length_replicate⟩
  rw [← hZ] at c2
  clear hZ o2
  have hs := txt_size Z
  have t1 : (txt Z).data.toList = Z := by simp [txt]
  go_wp2_with (fail)
  refine (append_g K2 b2 G_none _ (E := 0) (D := ⟨64 + c, false, [], Z⟩) (by simp [DiskD.apE, hs, hz]) (by simp [DiskD.apD, hs, hz, t1])).mono ?_
  rintro e w3 ⟨rfl, K3, f3⟩
  have b3 := Nat.le_trans b2 f3.size
  clear c2
  go_wp2_with (fail)
  refine (append_g K3 b3 G_none _ (E := 2001) (D := ⟨64 + c, false, [], Z⟩) (by simp [DiskD.apE, hz, ByteArray.size]) (by simp [DiskD.apD, hz, ByteArray.size])).mono ?_
  rintro e w4 ⟨rfl, K4, f4⟩
  have b4 := Nat.le_trans b3 f4.size
  go_wp2_with (fail)
  refine (cut_g K4 0 (E := 2000) (D := ⟨64 + c, false, [], Z⟩) (by simp [DiskD.cuE, hz]) (by simp [DiskD.cuD, hz])).mono ?_
  rintro e w5 ⟨rfl, K5, f5⟩
  have b5 := Nat.le_trans b4 f5.size
  go_wp2_with (fail)
  refine (crash_g K5 b5 G_none _ (E := 2000) (D := ⟨64 + c, false, [], Z⟩) (by simp [DiskD.crE]; omega) (by simp [DiskD.crD]; omega)).mono ?_
  rintro e w6 ⟨rfl, K6, f6⟩
  have b6 := Nat.le_trans b5 f6.size
  go_wp2_with (fail)
  refine (restart_g K6 (E := 2000) (D := ⟨64 + c, false, [], Z⟩) rfl rfl).mono ?_
  rintro e w7 ⟨rfl, K7, f7⟩
  have b7 := Nat.le_trans b6 f7.size
  go_wp2_with (fail)
  refine (sync_g K7 b7 G_none (E := 0) (D := ⟨64 + c, false, Z, []⟩) rfl rfl).mono ?_
  rintro e w8 ⟨rfl, K8, f8⟩
  have b8 := Nat.le_trans b7 f8.size
  go_wp2_with (fail)
  refine (cut_g K8 _ (E := 2000) (D := ⟨64 + c, false, Z, []⟩) (by simp [DiskD.cuE, hz]; omega) (by simp [DiskD.cuD, hz]; omega)).mono ?_
  rintro e w9 ⟨rfl, K9, f9⟩
  have b9 := Nat.le_trans b8 f9.size
  go_wp2_with (fail)
  refine (cut_g K9 _ (E := 2000) (D := ⟨64 + c, false, Z, []⟩) (by simp [DiskD.cuE, hz]; omega) (by simp [DiskD.cuD, hz]; omega)).mono ?_
  rintro e w10 ⟨rfl, K10, f10⟩
  have b10 := Nat.le_trans b9 f10.size
  go_wp2_with (fail)
  refine (crash_g K10 b10 G_none _ (E := 0) (D := ⟨64 + c, true, Z, []⟩) (by simp [DiskD.crE]; omega) (by simp [DiskD.crD]; omega)).mono ?_
  rintro e w11 ⟨rfl, K11, f11⟩
  have b11 := Nat.le_trans b10 f11.size
  go_wp2_with (fail)
  refine (sync_g K11 b11 G_none (E := 2002) (D := ⟨64 + c, true, Z, []⟩) rfl rfl).mono ?_
  rintro e w12 ⟨rfl, K12, f12⟩
  have b12 := Nat.le_trans b11 f12.size
  go_wp2_with (fail)
  refine (bytes_g K12 (E := 2002) (S := ByteArray.empty) rfl rfl).mono ?_
  rintro e w' ⟨rfl, rfl⟩
  go_wp2_with (fail)
  refine (crash_g K12 b12 G_none _ (E := 2002) (D := ⟨64 + c, true, Z, []⟩) rfl rfl).mono ?_
  rintro e w13 ⟨rfl, K13, f13⟩
  have b13 := Nat.le_trans b12 f13.size
  go_wp2_with (fail)
  refine (cut_g K13 _ (E := 2002) (D := ⟨64 + c, true, Z, []⟩) rfl rfl).mono ?_
  rintro e w14 ⟨rfl, K14, f14⟩
  have f := ((f1.mono fun _ _ h => h.elim).trans ((grown_frm0 w.heap.size No g2).trans (f3.trans (f4.trans (f5.trans (f6.trans (f7.trans (f8.trans (f9.trans (f10.trans (f11.trans (f12.trans (f13.trans f14))))))))))))).below (B := w.heap.size) (fun k hk h => by have := h.1; omega) b0
  clear f1 g2 f3 f4 f5 f6 f7 f8 f9 f10 f11 f12 f13 f14 K1 K2 K3 K4 K5 K6 K7 K8 K9 K10 K11 K12 K13 b2 b3 b4 b5 b6 b7 b8 b9 b10 b11 b12 b13
  go_wp2_with (first | (go_at_call 23; refine (num_any _ _).mono ?_; rintro e w' ⟨rfl, rfl⟩) | (go_at_call 37; refine (room_g K14 (R := 0) rfl).mono ?_; rintro e w' ⟨rfl, n, rfl⟩))
  go_ret
  exact ⟨rfl, below_drewN (f0.trans f) _⟩
theorem forms_row (W : World) (a0 : Int) (_ : (Lit.int .i64 a0).wf = true) (a1 : Int) (_ : (Lit.int .i64 a1).wf = true) : Calls Try.prog 6 #[.int .i64 a0, .int .i64 a1] W fun e w' => e = .returned (.bool true) ∧ Below W.heap.size W w' := forms_walk a0 a1 W
end Go.Proofs.Ytheejjifcpjdbaa

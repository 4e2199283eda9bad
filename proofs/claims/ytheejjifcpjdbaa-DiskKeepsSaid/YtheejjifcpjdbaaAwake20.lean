/- tattlelaw20.awake answers true. -/
import Derived.Test.YtheejjifcpjdbaaDisk6
namespace Go.Proofs.Ytheejjifcpjdbaa
set_option linter.unusedVariables false
set_option linter.unusedSimpArgs false
open Go.RowKit Go.Lib Go.Tt
theorem G_none {w : World} : ∀ x, No x → x < w.heap.size := fun x h => h.elim
theorem bcs_zeros (n : Nat) : bcs (List.replicate n 0) = List.replicate n (.int .u8 0) := by simp [bcs]
theorem conv_zeros {w : World} {a : Option Addr} {n c : Nat} (h : w.ownsRow 0 5 1 (.slice a n c) n (List.replicate n (.int .u8 0))) :
    (convert 47 9 (.slice a n c)).run Try.prog w = .ok (.string (txt (List.replicate n 0))) w := by
  have h' : w.ownsRow 0 5 1 (.slice a (List.replicate n (0 : UInt8)).length c) (List.replicate n (0 : UInt8)).length (bcs (List.replicate n 0)) := by
    rw [bcs_zeros, List.length_replicate]; exact h
  have := conv_own h'
  rw [List.length_replicate] at this
  exact this
theorem grown_frm0 {w w' : World} (B : Nat) (r : Nat → Prop) (h : w.grownBy w' none) : Frm (G B r) w w' := (Frm.of_grown h).mono fun k _ hk => by cases hk
theorem G_frm {B : Nat} {r : Nat → Prop} {w w' : World} {b : Nat} {d : DiskD} (h : DiskIs w (G B r) b d) (hf : Frm No w w') : DiskIs w' (G B r) b d := h.frm hf fun _ _ h => h
theorem grown_no {w w' : World} (h : w.grownBy w' none) : Frm No w w' := (Frm.of_grown h).mono fun k _ hk => by cases hk
set_option maxRecDepth 100000 in
theorem awake20 (w : World) : Calls Try.prog 24 #[] w fun e w' => e = .returned (.bool true) ∧ Below w.heap.size w w' := by
  go_enter Try.func24, Try.ntmps24
  go_wp2_with (fail)
  refine (new_ok 64 _ (by decide) (by decide)).mono ?_
  rintro e w1 ⟨rfl, K1, f1, z1⟩
  replace K1 : DiskIs w1 (G w.heap.size No) w.heap.size ⟨64, false, [], []⟩ := K1.mono fun k hk h => ⟨by omega, id⟩
  have b1 : w.heap.size ≤ w1.heap.size := f1.size
  go_wp2_with (fail)
  refine (new_no 63 _ (.inl (by decide))).mono ?_
  rintro e w' ⟨rfl, rfl⟩
  go_wp2_with (go_at_call 23; refine (num_any _ _).mono ?_; rintro e w' ⟨rfl, rfl⟩)
  refine (append_g K1 b1 G_none _ (E := 0) (D := ⟨64, false, [], [97, 98, 99]⟩) rfl rfl).mono ?_
  rintro e w2 ⟨rfl, K2, f2⟩
  have b2 := Nat.le_trans b1 f2.size
  go_wp2_with (fail)
  refine (sync_g K2 b2 G_none (E := 0) (D := ⟨64, false, [97, 98, 99], []⟩) rfl rfl).mono ?_
  rintro e w3 ⟨rfl, K3, f3⟩
  have b3 := Nat.le_trans b2 f3.size
  go_wp2_with (fail)
  refine (append_g K3 b3 G_none _ (E := 0) (D := ⟨64, false, [97, 98, 99], [100, 101, 102, 103]⟩) rfl rfl).mono ?_
  rintro e w4 ⟨rfl, K4, f4⟩
  have b4 := Nat.le_trans b3 f4.size
  go_wp2_with (at_make; refine wpList_mk1 _ rfl _ _ 47 rfl 5 (.int .u8 0) 1 Try.underlying47 Try.info_u8 rfl _ _ _ _ 58 rfl rfl rfl rfl (by decide) (by decide) ?_)
  intro w5 o5 g5
  have c5 := conv_zeros o5
  have K5 := G_frm K4 (grown_no g5)
  have b5 := Nat.le_trans b4 (grown_no g5).size
  go_wp2_with (fail)
  refine (append_g K5 b5 G_none _ (E := 2001) (D := ⟨64, false, [97, 98, 99], [100, 101, 102, 103]⟩) rfl rfl).mono ?_
  rintro e w6 ⟨rfl, K6, f6⟩
  have b6 := Nat.le_trans b5 f6.size
  clear c5 o5
  go_wp2_with (fail)
  refine (crash_g K6 b6 G_none 2 (E := 0) (D := ⟨64, true, [97, 98, 99, 100, 101], []⟩) rfl rfl).mono ?_
  rintro e w7 ⟨rfl, K7, f7⟩
  have b7 := Nat.le_trans b6 f7.size
  go_wp2_with (fail)
  refine (append_g K7 b7 G_none _ (E := 2002) (D := ⟨64, true, [97, 98, 99, 100, 101], []⟩) rfl rfl).mono ?_
  rintro e w8 ⟨rfl, K8, f8⟩
  go_wp2_with (fail)
  refine (restart_g K8 (E := 0) (D := ⟨64, false, [97, 98, 99, 100, 101], []⟩) rfl rfl).mono ?_
  rintro e w9 ⟨rfl, K9, f9⟩
  go_wp2_with (fail)
  refine (bytes_g K9 (E := 0) (S := ⟨#[97, 98, 99, 100, 101]⟩) rfl rfl).mono ?_
  rintro e w' ⟨rfl, rfl⟩
  go_wp2_with (fail)
  refine (cut_g K9 4 (E := 0) (D := ⟨64, false, [97, 98, 99, 100], []⟩) rfl rfl).mono ?_
  rintro e w10 ⟨rfl, K10, f10⟩
  go_wp2_with (first | (go_at_call 23; refine (num_any _ _).mono ?_; rintro e w' ⟨rfl, rfl⟩) | (go_at_call 37; refine (room_g K10 (R := 60) rfl).mono ?_; rintro e w' ⟨rfl, n, rfl⟩))
  go_ret
  refine ⟨rfl, Frm.below (F := G w.heap.size No) ?_ (fun k hk h => by have := h.1; omega) (Nat.le_refl _)⟩
  exact ((f1.mono fun _ _ h => h.elim).trans (f2.trans (f3.trans (f4.trans ((grown_frm0 _ _ g5).trans (f6.trans (f7.trans (f8.trans (f9.trans f10))))))))).trans (Frm.drewN _ _ _)
end Go.Proofs.Ytheejjifcpjdbaa

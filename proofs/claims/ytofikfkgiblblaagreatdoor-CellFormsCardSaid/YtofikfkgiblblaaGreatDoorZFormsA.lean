/- Merged: FormsA. -/
import Derived.Test.YtofikfkgiblblaaGreatDoorZFormsH
/- tattlelaw12.CellForms: further ways. -/
namespace Go.Proofs.YtofikfkgiblblaaGreatDoor
set_option linter.unusedVariables false
set_option linter.unusedSimpArgs false
set_option linter.unusedVariables false
set_option linter.unusedSimpArgs false
open Go.RowKit Go.Lib Go.Tt Go.Shelf
set_option maxHeartbeats 8000000 in
set_option maxRecDepth 100000 in
theorem forms0 {w0 : World} (tab : Tab w0) (which x : Int) (hk : (IntKind.u64.wrap which).tmod 18 = 0) :
    Calls Tryz.prog 5 #[.int .i64 which, .int .i64 x] w0 fun e w' => e = .returned (.bool true) ∧ Frm No w0 w' := by
  obtain ⟨y, hy, hy1⟩ := mask_nat 63 x _ (and_63 x)
  have HA := Lib.hid (awake_ok tab)
  clear tab
  go_enter Tryz.func5, Tryz.ntmps5
  go_wp2_with (fail)
  refine HA.out.mono ?_
  rintro e w1 ⟨rfl, F1⟩
  clear HA
  go_wp2_with (fail)
  have FX : Frm No w1 (((((w1.alloc (.cells #[.int .i64 8, .int .i64 8] 3 (0, 0))).alloc (.cells #[.int .i64 1, .int .i64 9, .int .i64 4, .slice (some ⟨w1.heap.size, 0, none⟩) 2 2, .int .i64 4, .string ⟨#[84]⟩, .string ⟨#[105]⟩, .string ⟨#[102]⟩, .string ⟨#[]⟩, .int .i64 0, .int .i64 0, .int .i64 0, .int .i64 0, .slice none 0 0] 35 (0, 0))).alloc (.cells #[.int .i64 5, .int .i64 5] 3 (0, 0))).alloc (.cells #[.int .i64 0, .int .i64 2, .int .i64 3, .string ⟨#[97]⟩, .bool false, .int .i64 0, .int .i64 3, .int .i64 2, .string ⟨#[]⟩, .bool true] 59 (0, 0))).alloc (.cells #[.int .i64 3, .bool false, .int .i64 0, .int .i64 0, .string ⟨#[]⟩, .int .i64 0, .int .i64 0, .slice none 0 0, .slice (some ⟨w1.heap.size + 1 + 1 + 1, 0, none⟩) 2 2, .slice (some ⟨w1.heap.size + 1 + 1, 0, none⟩) 2 2] 30 (0, 0))) := (((((Frm.refl No w1).al _).al _).al _).al _).al _
  have hD : (((((w1.alloc (.cells #[.int .i64 8, .int .i64 8] 3 (0, 0))).alloc (.cells #[.int .i64 1, .int .i64 9, .int .i64 4, .slice (some ⟨w1.heap.size, 0, none⟩) 2 2, .int .i64 4, .string ⟨#[84]⟩, .string ⟨#[105]⟩, .string ⟨#[102]⟩, .string ⟨#[]⟩, .int .i64 0, .int .i64 0, .int .i64 0, .int .i64 0, .slice none 0 0] 35 (0, 0))).alloc (.cells #[.int .i64 5, .int .i64 5] 3 (0, 0))).alloc (.cells #[.int .i64 0, .int .i64 2, .int .i64 3, .string ⟨#[97]⟩, .bool false, .int .i64 0, .int .i64 3, .int .i64 2, .string ⟨#[]⟩, .bool true] 59 (0, 0))).alloc (.cells #[.int .i64 3, .bool false, .int .i64 0, .int .i64 0, .string ⟨#[]⟩, .int .i64 0, .int .i64 0, .slice none 0 0, .slice (some ⟨w1.heap.size + 1 + 1 + 1, 0, none⟩) 2 2, .slice (some ⟨w1.heap.size + 1 + 1, 0, none⟩) 2 2] 30 (0, 0))).heap[w1.heap.size]? = some (.cells #[.int .i64 8, .int .i64 8] 3 (0, 0)) := al_old (al_old (al_old (al_old (heap_alloc_new w1 _))))
  have hO : (((((w1.alloc (.cells #[.int .i64 8, .int .i64 8] 3 (0, 0))).alloc (.cells #[.int .i64 1, .int .i64 9, .int .i64 4, .slice (some ⟨w1.heap.size, 0, none⟩) 2 2, .int .i64 4, .string ⟨#[84]⟩, .string ⟨#[105]⟩, .string ⟨#[102]⟩, .string ⟨#[]⟩, .int .i64 0, .int .i64 0, .int .i64 0, .int .i64 0, .slice none 0 0] 35 (0, 0))).alloc (.cells #[.int .i64 5, .int .i64 5] 3 (0, 0))).alloc (.cells #[.int .i64 0, .int .i64 2, .int .i64 3, .string ⟨#[97]⟩, .bool false, .int .i64 0, .int .i64 3, .int .i64 2, .string ⟨#[]⟩, .bool true] 59 (0, 0))).alloc (.cells #[.int .i64 3, .bool false, .int .i64 0, .int .i64 0, .string ⟨#[]⟩, .int .i64 0, .int .i64 0, .slice none 0 0, .slice (some ⟨w1.heap.size + 1 + 1 + 1, 0, none⟩) 2 2, .slice (some ⟨w1.heap.size + 1 + 1, 0, none⟩) 2 2] 30 (0, 0))).heap[w1.heap.size + 1]? = some (.cells #[.int .i64 1, .int .i64 9, .int .i64 4, .slice (some ⟨w1.heap.size, 0, none⟩) 2 2, .int .i64 4, .string ⟨#[84]⟩, .string ⟨#[105]⟩, .string ⟨#[102]⟩, .string ⟨#[]⟩, .int .i64 0, .int .i64 0, .int .i64 0, .int .i64 0, .slice none 0 0] 35 (0, 0)) := al_old (al_old (al_old (al_at (by simp))))
  have hS : (((((w1.alloc (.cells #[.int .i64 8, .int .i64 8] 3 (0, 0))).alloc (.cells #[.int .i64 1, .int .i64 9, .int .i64 4, .slice (some ⟨w1.heap.size, 0, none⟩) 2 2, .int .i64 4, .string ⟨#[84]⟩, .string ⟨#[105]⟩, .string ⟨#[102]⟩, .string ⟨#[]⟩, .int .i64 0, .int .i64 0, .int .i64 0, .int .i64 0, .slice none 0 0] 35 (0, 0))).alloc (.cells #[.int .i64 5, .int .i64 5] 3 (0, 0))).alloc (.cells #[.int .i64 0, .int .i64 2, .int .i64 3, .string ⟨#[97]⟩, .bool false, .int .i64 0, .int .i64 3, .int .i64 2, .string ⟨#[]⟩, .bool true] 59 (0, 0))).alloc (.cells #[.int .i64 3, .bool false, .int .i64 0, .int .i64 0, .string ⟨#[]⟩, .int .i64 0, .int .i64 0, .slice none 0 0, .slice (some ⟨w1.heap.size + 1 + 1 + 1, 0, none⟩) 2 2, .slice (some ⟨w1.heap.size + 1 + 1, 0, none⟩) 2 2] 30 (0, 0))).heap[w1.heap.size + 1 + 1]? = some (.cells #[.int .i64 5, .int .i64 5] 3 (0, 0)) := al_old (al_old (al_at (by simp)))
  have hE : (((((w1.alloc (.cells #[.int .i64 8, .int .i64 8] 3 (0, 0))).alloc (.cells #[.int .i64 1, .int .i64 9, .int .i64 4, .slice (some ⟨w1.heap.size, 0, none⟩) 2 2, .int .i64 4, .string ⟨#[84]⟩, .string ⟨#[105]⟩, .string ⟨#[102]⟩, .string ⟨#[]⟩, .int .i64 0, .int .i64 0, .int .i64 0, .int .i64 0, .slice none 0 0] 35 (0, 0))).alloc (.cells #[.int .i64 5, .int .i64 5] 3 (0, 0))).alloc (.cells #[.int .i64 0, .int .i64 2, .int .i64 3, .string ⟨#[97]⟩, .bool false, .int .i64 0, .int .i64 3, .int .i64 2, .string ⟨#[]⟩, .bool true] 59 (0, 0))).alloc (.cells #[.int .i64 3, .bool false, .int .i64 0, .int .i64 0, .string ⟨#[]⟩, .int .i64 0, .int .i64 0, .slice none 0 0, .slice (some ⟨w1.heap.size + 1 + 1 + 1, 0, none⟩) 2 2, .slice (some ⟨w1.heap.size + 1 + 1, 0, none⟩) 2 2] 30 (0, 0))).heap[w1.heap.size + 1 + 1 + 1]? = some (.cells #[.int .i64 0, .int .i64 2, .int .i64 3, .string ⟨#[97]⟩, .bool false, .int .i64 0, .int .i64 3, .int .i64 2, .string ⟨#[]⟩, .bool true] 59 (0, 0)) := al_old (al_at (by simp))
  have hC : (((((w1.alloc (.cells #[.int .i64 8, .int .i64 8] 3 (0, 0))).alloc (.cells #[.int .i64 1, .int .i64 9, .int .i64 4, .slice (some ⟨w1.heap.size, 0, none⟩) 2 2, .int .i64 4, .string ⟨#[84]⟩, .string ⟨#[105]⟩, .string ⟨#[102]⟩, .string ⟨#[]⟩, .int .i64 0, .int .i64 0, .int .i64 0, .int .i64 0, .slice none 0 0] 35 (0, 0))).alloc (.cells #[.int .i64 5, .int .i64 5] 3 (0, 0))).alloc (.cells #[.int .i64 0, .int .i64 2, .int .i64 3, .string ⟨#[97]⟩, .bool false, .int .i64 0, .int .i64 3, .int .i64 2, .string ⟨#[]⟩, .bool true] 59 (0, 0))).alloc (.cells #[.int .i64 3, .bool false, .int .i64 0, .int .i64 0, .string ⟨#[]⟩, .int .i64 0, .int .i64 0, .slice none 0 0, .slice (some ⟨w1.heap.size + 1 + 1 + 1, 0, none⟩) 2 2, .slice (some ⟨w1.heap.size + 1 + 1, 0, none⟩) 2 2] 30 (0, 0))).heap[w1.heap.size + 1 + 1 + 1 + 1]? = some (.cells #[.int .i64 3, .bool false, .int .i64 0, .int .i64 0, .string ⟨#[]⟩, .int .i64 0, .int .i64 0, .slice none 0 0, .slice (some ⟨w1.heap.size + 1 + 1 + 1, 0, none⟩) 2 2, .slice (some ⟨w1.heap.size + 1 + 1, 0, none⟩) 2 2] 30 (0, 0)) := al_at (by simp)
  have z1 := F1.size
  have FX := F1.trans FX
  clear F1
  revert hD hO hS hE hC FX
  generalize (((((w1.alloc (.cells #[.int .i64 8, .int .i64 8] 3 (0, 0))).alloc (.cells #[.int .i64 1, .int .i64 9, .int .i64 4, .slice (some ⟨w1.heap.size, 0, none⟩) 2 2, .int .i64 4, .string ⟨#[84]⟩, .string ⟨#[105]⟩, .string ⟨#[102]⟩, .string ⟨#[]⟩, .int .i64 0, .int .i64 0, .int .i64 0, .int .i64 0, .slice none 0 0] 35 (0, 0))).alloc (.cells #[.int .i64 5, .int .i64 5] 3 (0, 0))).alloc (.cells #[.int .i64 0, .int .i64 2, .int .i64 3, .string ⟨#[97]⟩, .bool false, .int .i64 0, .int .i64 3, .int .i64 2, .string ⟨#[]⟩, .bool true] 59 (0, 0))).alloc (.cells #[.int .i64 3, .bool false, .int .i64 0, .int .i64 0, .string ⟨#[]⟩, .int .i64 0, .int .i64 0, .slice none 0 0, .slice (some ⟨w1.heap.size + 1 + 1 + 1, 0, none⟩) 2 2, .slice (some ⟨w1.heap.size + 1 + 1, 0, none⟩) 2 2] 30 (0, 0))) = X
  intro hD hO hS hE hC FX
  have oD : Ow X (fun k => k = w1.heap.size) 3 eInt (.slice (some ⟨w1.heap.size, 0, none⟩) 2 2) [8, 8] := Ow.row (l := [8, 8]) (c := 2) hD rfl (by decide) (by decide) rfl rfl
  have oS : Ow X (fun k => k = w1.heap.size + 1 + 1) 3 eInt (.slice (some ⟨w1.heap.size + 1 + 1, 0, none⟩) 2 2) [5, 5] := Ow.row (l := [5, 5]) (c := 2) hS rfl (by decide) (by decide) rfl rfl
  have oE : Ow X (fun k => k = w1.heap.size + 1 + 1 + 1) 59 eEl (.slice (some ⟨w1.heap.size + 1 + 1 + 1, 0, none⟩) 2 2) [(0, 2, 3, ⟨#[97]⟩, false), (0, 3, 2, ⟨#[]⟩, true)] := Ow.row (E := eEl) (l := ([(0, 2, 3, ⟨#[97]⟩, false), (0, 3, 2, ⟨#[]⟩, true)] : List El)) (c := 2) hE rfl (by decide) (by decide) rfl rfl
  refine (may_G ⟨RdS.nil _ _, oE.rd, oS.rd⟩).mono ?_
  rintro e w2 ⟨rfl, f2⟩
  have F2 := FX.trans f2
  have C2 := f2.obj hC id
  have O2 := f2.obj hO id
  have D2 := oD.no f2
  have S2 := oS.no f2
  have E2 := oE.no f2
  clear FX hD hO hS hE hC oD oS oE f2
  go_wp2_with (refine wpList_stoC _ rfl (.tmp 38) (.tmp 37) 3 rfl C2 (vs := [.int .i64 (3 + (1 + (y : Int)))]) rfl (by kernel_rfl) (by show 0 + 1 ≤ 10; omega) (by intro u hu; simp at hu; subst hu; rfl) rfl rfl #[.int .i64 (3 + (1 + (y : Int))), .bool false, .int .i64 0, .int .i64 0, .string ⟨#[]⟩, .int .i64 0, .int .i64 0, .slice none 0 0, .slice (some ⟨w1.heap.size + 1 + 1 + 1, 0, none⟩) 2 2, .slice (some ⟨w1.heap.size + 1 + 1, 0, none⟩) 2 2] rfl ?_)
  intro w3 C3 f3 z3
  have F3 := F2.then f3 fun k hk e => by have := lt_of_block C2; omega
  have O3 := f3.obj O2 (by omega)
  have D3 := D2.frm f3 fun k hk e => by omega
  have S3 := S2.frm f3 fun k hk e => by omega
  have E3 := E2.frm f3 fun k hk e => by omega
  clear F2 O2 D2 S2 E2 f3 C2
  obtain ⟨q0, q1, q2, q3, q4, q5, q6, q7, q8, q9⟩ := obj10 C3
  obtain ⟨t0, t1, t2, t3, t4, t5, t6, t7, t8, t9, t10, t11, t12, t13⟩ := obj14 O3
  have hF : ∀ x1 x2 x3, cval (fB 0 (y + 1)) x1 x2 x3 = (fun x1 x2 x3 => .agg #[.int .i64 (3 + (1 + (y : Int))), .bool false, .int .i64 0, .int .i64 0, .string ⟨#[]⟩, .int .i64 0, .int .i64 0, x1, x2, x3]) x1 x2 x3 := fun x1 x2 x3 => by
    have : ((y + 1 : Nat) : Int) = 1 + (y : Int) := by omega
    show Value.agg #[.int .i64 (3 + ((y + 1 : Nat) : Int)), .bool false, .int .i64 0, .int .i64 0, .string ⟨#[]⟩, .int .i64 0, .int .i64 0, x1, x2, x3] = _
    rw [this]
  have HM := fB_may ⟨0, by omega⟩ ⟨y, by omega⟩ (by show (0 : Nat) ≠ 12; decide)
  have HZ : CellZ (fB 0 (y + 1)) := ⟨fG_z.v, fG_z.e, fG_z.l⟩
  go_wp2_with (fail)
  have R3 : CellR w3 (fB 0 (y + 1)) (.slice none 0 0) (.slice (some ⟨w1.heap.size + 1 + 1 + 1, 0, none⟩) 2 2) (.slice (some ⟨w1.heap.size + 1 + 1, 0, none⟩) 2 2) := ⟨RdS.nil _ _, E3.rd, S3.rd⟩
  have HB : CellB (fB 0 (y + 1)) := ⟨(by show 0 * 32 ≤ _; unfold reachBytes; omega), (by show 2 * 48 ≤ _; unfold reachBytes; omega), (by show 2 * 8 ≤ _; unfold reachBytes; omega)⟩
  refine (apply_no hF HM R3 HB HZ (o := ⟨(1, 9), 4, [8, 8], 4, ⟨#[84]⟩, ⟨#[105]⟩, ⟨#[102]⟩, ⟨#[]⟩, (0, 0), (0, 0), []⟩) ⟨D3.rd, RdS.nil _ _⟩ ⟨by decide, by decide, by decide, by decide⟩).mono ?_
  rintro e w4 ⟨b1, d1, b2, d2, b3, d3, rfl, r4, f4⟩
  have F4 := F3.trans f4
  have R4 := R3.no f4
  have C4 := f4.obj C3 id
  clear F3 R3 C3 O3 D3 S3 E3 f4 q0 q1 q2 q3 q4 q5 q6 q7 q8 q9 t0 t1 t2 t3 t4 t5 t6 t7 t8 t9 t10 t11 t12 t13
  have n4 := lt_of_block C4
  obtain ⟨q0, q1, q2, q3, q4, q5, q6, q7, q8, q9⟩ := obj10 C4
  go_wp2_with (fail)
  have G4 := (Frm.refl No w4).al (.cells #[.int .i64 0, .bool false, .int .i64 0, .int .i64 0, .string ⟨#[]⟩, .int .i64 0, .int .i64 0, .slice b1 0 d1, .slice b2 0 d2, .slice b3 0 d3] 30 (0, 0))
  refine (may_no hF HM (R4.no G4) HZ).mono ?_
  rintro e w5 ⟨rfl, f5⟩
  have Z5 := f5.obj (heap_alloc_new w4 (.cells #[.int .i64 0, .bool false, .int .i64 0, .int .i64 0, .string ⟨#[]⟩, .int .i64 0, .int .i64 0, .slice b1 0 d1, .slice b2 0 d2, .slice b3 0 d3] 30 (0, 0))) id
  have G5 := G4.trans f5
  have F5 := F4.trans G5
  have r5 := r4.no G5
  clear F4 R4 C4 G4 G5 f5 r4 n4 q0 q1 q2 q3 q4 q5 q6 q7 q8 q9
  have n5 := lt_of_block Z5
  obtain ⟨q0, q1, q2, q3, q4, q5, q6, q7, q8, q9⟩ := obj10 Z5
  go_wp2_with (fail)
  refine (sameCell_ok r5 (c := zeroC) (ve' := .slice none 0 0) (vl' := .slice none 0 0) (vs' := .slice none 0 0) ⟨RdS.nil _ _, RdS.nil _ _, RdS.nil _ _⟩).mono ?_
  rintro e w6 ⟨rfl, f6⟩
  go_wp2_with (go_at_call 18; refine (num_ok _ _).mono ?_; rintro e w' ⟨rfl, rfl⟩)
  go_ret
  exact ⟨rfl, F5.trans f6⟩
set_option maxHeartbeats 8000000 in
set_option maxRecDepth 100000 in
theorem forms1 {w0 : World} (tab : Tab w0) (which x : Int) (hk : (IntKind.u64.wrap which).tmod 18 = 1) :
    Calls Tryz.prog 5 #[.int .i64 which, .int .i64 x] w0 fun e w' => e = .returned (.bool true) ∧ Frm No w0 w' := by
  obtain ⟨y, hy, hy1⟩ := mask_nat 63 x _ (and_63 x)
  have HA := Lib.hid (awake_ok tab)
  clear tab
  go_enter Tryz.func5, Tryz.ntmps5
  go_wp2_with (fail)
  refine HA.out.mono ?_
  rintro e w1 ⟨rfl, F1⟩
  clear HA
  go_wp2_with (fail)
  have FX : Frm No w1 (((((w1.alloc (.cells #[.int .i64 8, .int .i64 8] 3 (0, 0))).alloc (.cells #[.int .i64 1, .int .i64 9, .int .i64 4, .slice (some ⟨w1.heap.size, 0, none⟩) 2 2, .int .i64 4, .string ⟨#[84]⟩, .string ⟨#[105]⟩, .string ⟨#[102]⟩, .string ⟨#[]⟩, .int .i64 0, .int .i64 0, .int .i64 0, .int .i64 0, .slice none 0 0] 35 (0, 0))).alloc (.cells #[.int .i64 5, .int .i64 5] 3 (0, 0))).alloc (.cells #[.int .i64 0, .int .i64 2, .int .i64 3, .string ⟨#[97]⟩, .bool false, .int .i64 0, .int .i64 3, .int .i64 2, .string ⟨#[]⟩, .bool true] 59 (0, 0))).alloc (.cells #[.int .i64 3, .bool false, .int .i64 0, .int .i64 0, .string ⟨#[]⟩, .int .i64 0, .int .i64 0, .slice none 0 0, .slice (some ⟨w1.heap.size + 1 + 1 + 1, 0, none⟩) 2 2, .slice (some ⟨w1.heap.size + 1 + 1, 0, none⟩) 2 2] 30 (0, 0))) := (((((Frm.refl No w1).al _).al _).al _).al _).al _
  have hD : (((((w1.alloc (.cells #[.int .i64 8, .int .i64 8] 3 (0, 0))).alloc (.cells #[.int .i64 1, .int .i64 9, .int .i64 4, .slice (some ⟨w1.heap.size, 0, none⟩) 2 2, .int .i64 4, .string ⟨#[84]⟩, .string ⟨#[105]⟩, .string ⟨#[102]⟩, .string ⟨#[]⟩, .int .i64 0, .int .i64 0, .int .i64 0, .int .i64 0, .slice none 0 0] 35 (0, 0))).alloc (.cells #[.int .i64 5, .int .i64 5] 3 (0, 0))).alloc (.cells #[.int .i64 0, .int .i64 2, .int .i64 3, .string ⟨#[97]⟩, .bool false, .int .i64 0, .int .i64 3, .int .i64 2, .string ⟨#[]⟩, .bool true] 59 (0, 0))).alloc (.cells #[.int .i64 3, .bool false, .int .i64 0, .int .i64 0, .string ⟨#[]⟩, .int .i64 0, .int .i64 0, .slice none 0 0, .slice (some ⟨w1.heap.size + 1 + 1 + 1, 0, none⟩) 2 2, .slice (some ⟨w1.heap.size + 1 + 1, 0, none⟩) 2 2] 30 (0, 0))).heap[w1.heap.size]? = some (.cells #[.int .i64 8, .int .i64 8] 3 (0, 0)) := al_old (al_old (al_old (al_old (heap_alloc_new w1 _))))
  have hO : (((((w1.alloc (.cells #[.int .i64 8, .int .i64 8] 3 (0, 0))).alloc (.cells #[.int .i64 1, .int .i64 9, .int .i64 4, .slice (some ⟨w1.heap.size, 0, none⟩) 2 2, .int .i64 4, .string ⟨#[84]⟩, .string ⟨#[105]⟩, .string ⟨#[102]⟩, .string ⟨#[]⟩, .int .i64 0, .int .i64 0, .int .i64 0, .int .i64 0, .slice none 0 0] 35 (0, 0))).alloc (.cells #[.int .i64 5, .int .i64 5] 3 (0, 0))).alloc (.cells #[.int .i64 0, .int .i64 2, .int .i64 3, .string ⟨#[97]⟩, .bool false, .int .i64 0, .int .i64 3, .int .i64 2, .string ⟨#[]⟩, .bool true] 59 (0, 0))).alloc (.cells #[.int .i64 3, .bool false, .int .i64 0, .int .i64 0, .string ⟨#[]⟩, .int .i64 0, .int .i64 0, .slice none 0 0, .slice (some ⟨w1.heap.size + 1 + 1 + 1, 0, none⟩) 2 2, .slice (some ⟨w1.heap.size + 1 + 1, 0, none⟩) 2 2] 30 (0, 0))).heap[w1.heap.size + 1]? = some (.cells #[.int .i64 1, .int .i64 9, .int .i64 4, .slice (some ⟨w1.heap.size, 0, none⟩) 2 2, .int .i64 4, .string ⟨#[84]⟩, .string ⟨#[105]⟩, .string ⟨#[102]⟩, .string ⟨#[]⟩, .int .i64 0, .int .i64 0, .int .i64 0, .int .i64 0, .slice none 0 0] 35 (0, 0)) := al_old (al_old (al_old (al_at (by simp))))
  have hS : (((((w1.alloc (.cells #[.int .i64 8, .int .i64 8] 3 (0, 0))).alloc (.cells #[.int .i64 1, .int .i64 9, .int .i64 4, .slice (some ⟨w1.heap.size, 0, none⟩) 2 2, .int .i64 4, .string ⟨#[84]⟩, .string ⟨#[105]⟩, .string ⟨#[102]⟩, .string ⟨#[]⟩, .int .i64 0, .int .i64 0, .int .i64 0, .int .i64 0, .slice none 0 0] 35 (0, 0))).alloc (.cells #[.int .i64 5, .int .i64 5] 3 (0, 0))).alloc (.cells #[.int .i64 0, .int .i64 2, .int .i64 3, .string ⟨#[97]⟩, .bool false, .int .i64 0, .int .i64 3, .int .i64 2, .string ⟨#[]⟩, .bool true] 59 (0, 0))).alloc (.cells #[.int .i64 3, .bool false, .int .i64 0, .int .i64 0, .string ⟨#[]⟩, .int .i64 0, .int .i64 0, .slice none 0 0, .slice (some ⟨w1.heap.size + 1 + 1 + 1, 0, none⟩) 2 2, .slice (some ⟨w1.heap.size + 1 + 1, 0, none⟩) 2 2] 30 (0, 0))).heap[w1.heap.size + 1 + 1]? = some (.cells #[.int .i64 5, .int .i64 5] 3 (0, 0)) := al_old (al_old (al_at (by simp)))
  have hE : (((((w1.alloc (.cells #[.int .i64 8, .int .i64 8] 3 (0, 0))).alloc (.cells #[.int .i64 1, .int .i64 9, .int .i64 4, .slice (some ⟨w1.heap.size, 0, none⟩) 2 2, .int .i64 4, .string ⟨#[84]⟩, .string ⟨#[105]⟩, .string ⟨#[102]⟩, .string ⟨#[]⟩, .int .i64 0, .int .i64 0, .int .i64 0, .int .i64 0, .slice none 0 0] 35 (0, 0))).alloc (.cells #[.int .i64 5, .int .i64 5] 3 (0, 0))).alloc (.cells #[.int .i64 0, .int .i64 2, .int .i64 3, .string ⟨#[97]⟩, .bool false, .int .i64 0, .int .i64 3, .int .i64 2, .string ⟨#[]⟩, .bool true] 59 (0, 0))).alloc (.cells #[.int .i64 3, .bool false, .int .i64 0, .int .i64 0, .string ⟨#[]⟩, .int .i64 0, .int .i64 0, .slice none 0 0, .slice (some ⟨w1.heap.size + 1 + 1 + 1, 0, none⟩) 2 2, .slice (some ⟨w1.heap.size + 1 + 1, 0, none⟩) 2 2] 30 (0, 0))).heap[w1.heap.size + 1 + 1 + 1]? = some (.cells #[.int .i64 0, .int .i64 2, .int .i64 3, .string ⟨#[97]⟩, .bool false, .int .i64 0, .int .i64 3, .int .i64 2, .string ⟨#[]⟩, .bool true] 59 (0, 0)) := al_old (al_at (by simp))
  have hC : (((((w1.alloc (.cells #[.int .i64 8, .int .i64 8] 3 (0, 0))).alloc (.cells #[.int .i64 1, .int .i64 9, .int .i64 4, .slice (some ⟨w1.heap.size, 0, none⟩) 2 2, .int .i64 4, .string ⟨#[84]⟩, .string ⟨#[105]⟩, .string ⟨#[102]⟩, .string ⟨#[]⟩, .int .i64 0, .int .i64 0, .int .i64 0, .int .i64 0, .slice none 0 0] 35 (0, 0))).alloc (.cells #[.int .i64 5, .int .i64 5] 3 (0, 0))).alloc (.cells #[.int .i64 0, .int .i64 2, .int .i64 3, .string ⟨#[97]⟩, .bool false, .int .i64 0, .int .i64 3, .int .i64 2, .string ⟨#[]⟩, .bool true] 59 (0, 0))).alloc (.cells #[.int .i64 3, .bool false, .int .i64 0, .int .i64 0, .string ⟨#[]⟩, .int .i64 0, .int .i64 0, .slice none 0 0, .slice (some ⟨w1.heap.size + 1 + 1 + 1, 0, none⟩) 2 2, .slice (some ⟨w1.heap.size + 1 + 1, 0, none⟩) 2 2] 30 (0, 0))).heap[w1.heap.size + 1 + 1 + 1 + 1]? = some (.cells #[.int .i64 3, .bool false, .int .i64 0, .int .i64 0, .string ⟨#[]⟩, .int .i64 0, .int .i64 0, .slice none 0 0, .slice (some ⟨w1.heap.size + 1 + 1 + 1, 0, none⟩) 2 2, .slice (some ⟨w1.heap.size + 1 + 1, 0, none⟩) 2 2] 30 (0, 0)) := al_at (by simp)
  have z1 := F1.size
  have FX := F1.trans FX
  clear F1
  revert hD hO hS hE hC FX
  generalize (((((w1.alloc (.cells #[.int .i64 8, .int .i64 8] 3 (0, 0))).alloc (.cells #[.int .i64 1, .int .i64 9, .int .i64 4, .slice (some ⟨w1.heap.size, 0, none⟩) 2 2, .int .i64 4, .string ⟨#[84]⟩, .string ⟨#[105]⟩, .string ⟨#[102]⟩, .string ⟨#[]⟩, .int .i64 0, .int .i64 0, .int .i64 0, .int .i64 0, .slice none 0 0] 35 (0, 0))).alloc (.cells #[.int .i64 5, .int .i64 5] 3 (0, 0))).alloc (.cells #[.int .i64 0, .int .i64 2, .int .i64 3, .string ⟨#[97]⟩, .bool false, .int .i64 0, .int .i64 3, .int .i64 2, .string ⟨#[]⟩, .bool true] 59 (0, 0))).alloc (.cells #[.int .i64 3, .bool false, .int .i64 0, .int .i64 0, .string ⟨#[]⟩, .int .i64 0, .int .i64 0, .slice none 0 0, .slice (some ⟨w1.heap.size + 1 + 1 + 1, 0, none⟩) 2 2, .slice (some ⟨w1.heap.size + 1 + 1, 0, none⟩) 2 2] 30 (0, 0))) = X
  intro hD hO hS hE hC FX
  have oD : Ow X (fun k => k = w1.heap.size) 3 eInt (.slice (some ⟨w1.heap.size, 0, none⟩) 2 2) [8, 8] := Ow.row (l := [8, 8]) (c := 2) hD rfl (by decide) (by decide) rfl rfl
  have oS : Ow X (fun k => k = w1.heap.size + 1 + 1) 3 eInt (.slice (some ⟨w1.heap.size + 1 + 1, 0, none⟩) 2 2) [5, 5] := Ow.row (l := [5, 5]) (c := 2) hS rfl (by decide) (by decide) rfl rfl
  have oE : Ow X (fun k => k = w1.heap.size + 1 + 1 + 1) 59 eEl (.slice (some ⟨w1.heap.size + 1 + 1 + 1, 0, none⟩) 2 2) [(0, 2, 3, ⟨#[97]⟩, false), (0, 3, 2, ⟨#[]⟩, true)] := Ow.row (E := eEl) (l := ([(0, 2, 3, ⟨#[97]⟩, false), (0, 3, 2, ⟨#[]⟩, true)] : List El)) (c := 2) hE rfl (by decide) (by decide) rfl rfl
  refine (may_G ⟨RdS.nil _ _, oE.rd, oS.rd⟩).mono ?_
  rintro e w2 ⟨rfl, f2⟩
  have F2 := FX.trans f2
  have C2 := f2.obj hC id
  have O2 := f2.obj hO id
  have D2 := oD.no f2
  have S2 := oS.no f2
  have E2 := oE.no f2
  clear FX hD hO hS hE hC oD oS oE f2
  go_wp2_with (refine wpList_stoC _ rfl (.tmp 43) (.tmp 42) 3 rfl C2 (vs := [.int .i64 (-(1 + (y : Int)))]) rfl (by kernel_rfl) (by show 0 + 1 ≤ 10; omega) (by intro u hu; simp at hu; subst hu; rfl) rfl rfl #[.int .i64 (-(1 + (y : Int))), .bool false, .int .i64 0, .int .i64 0, .string ⟨#[]⟩, .int .i64 0, .int .i64 0, .slice none 0 0, .slice (some ⟨w1.heap.size + 1 + 1 + 1, 0, none⟩) 2 2, .slice (some ⟨w1.heap.size + 1 + 1, 0, none⟩) 2 2] rfl ?_)
  intro w3 C3 f3 z3
  have F3 := F2.then f3 fun k hk e => by have := lt_of_block C2; omega
  have O3 := f3.obj O2 (by omega)
  have D3 := D2.frm f3 fun k hk e => by omega
  have S3 := S2.frm f3 fun k hk e => by omega
  have E3 := E2.frm f3 fun k hk e => by omega
  clear F2 O2 D2 S2 E2 f3 C2
  obtain ⟨q0, q1, q2, q3, q4, q5, q6, q7, q8, q9⟩ := obj10 C3
  obtain ⟨t0, t1, t2, t3, t4, t5, t6, t7, t8, t9, t10, t11, t12, t13⟩ := obj14 O3
  have hF : ∀ x1 x2 x3, cval (fB 1 (y + 1)) x1 x2 x3 = (fun x1 x2 x3 => .agg #[.int .i64 (-(1 + (y : Int))), .bool false, .int .i64 0, .int .i64 0, .string ⟨#[]⟩, .int .i64 0, .int .i64 0, x1, x2, x3]) x1 x2 x3 := fun x1 x2 x3 => by
    have : ((y + 1 : Nat) : Int) = 1 + (y : Int) := by omega
    show Value.agg #[.int .i64 (-((y + 1 : Nat) : Int)), .bool false, .int .i64 0, .int .i64 0, .string ⟨#[]⟩, .int .i64 0, .int .i64 0, x1, x2, x3] = _
    rw [this]
  have HM := fB_may ⟨1, by omega⟩ ⟨y, by omega⟩ (by show (1 : Nat) ≠ 12; decide)
  have HZ : CellZ (fB 1 (y + 1)) := ⟨fG_z.v, fG_z.e, fG_z.l⟩
  go_wp2_with (fail)
  have R3 : CellR w3 (fB 1 (y + 1)) (.slice none 0 0) (.slice (some ⟨w1.heap.size + 1 + 1 + 1, 0, none⟩) 2 2) (.slice (some ⟨w1.heap.size + 1 + 1, 0, none⟩) 2 2) := ⟨RdS.nil _ _, E3.rd, S3.rd⟩
  have HB : CellB (fB 1 (y + 1)) := ⟨(by show 0 * 32 ≤ _; unfold reachBytes; omega), (by show 2 * 48 ≤ _; unfold reachBytes; omega), (by show 2 * 8 ≤ _; unfold reachBytes; omega)⟩
  refine (apply_no hF HM R3 HB HZ (o := ⟨(1, 9), 4, [8, 8], 4, ⟨#[84]⟩, ⟨#[105]⟩, ⟨#[102]⟩, ⟨#[]⟩, (0, 0), (0, 0), []⟩) ⟨D3.rd, RdS.nil _ _⟩ ⟨by decide, by decide, by decide, by decide⟩).mono ?_
  rintro e w4 ⟨b1, d1, b2, d2, b3, d3, rfl, r4, f4⟩
  have F4 := F3.trans f4
  have R4 := R3.no f4
  have C4 := f4.obj C3 id
  clear F3 R3 C3 O3 D3 S3 E3 f4 q0 q1 q2 q3 q4 q5 q6 q7 q8 q9 t0 t1 t2 t3 t4 t5 t6 t7 t8 t9 t10 t11 t12 t13
  have n4 := lt_of_block C4
  obtain ⟨q0, q1, q2, q3, q4, q5, q6, q7, q8, q9⟩ := obj10 C4
  go_wp2_with (fail)
  have G4 := (Frm.refl No w4).al (.cells #[.int .i64 0, .bool false, .int .i64 0, .int .i64 0, .string ⟨#[]⟩, .int .i64 0, .int .i64 0, .slice b1 0 d1, .slice b2 0 d2, .slice b3 0 d3] 30 (0, 0))
  refine (may_no hF HM (R4.no G4) HZ).mono ?_
  rintro e w5 ⟨rfl, f5⟩
  have Z5 := f5.obj (heap_alloc_new w4 (.cells #[.int .i64 0, .bool false, .int .i64 0, .int .i64 0, .string ⟨#[]⟩, .int .i64 0, .int .i64 0, .slice b1 0 d1, .slice b2 0 d2, .slice b3 0 d3] 30 (0, 0))) id
  have G5 := G4.trans f5
  have F5 := F4.trans G5
  have r5 := r4.no G5
  clear F4 R4 C4 G4 G5 f5 r4 n4 q0 q1 q2 q3 q4 q5 q6 q7 q8 q9
  have n5 := lt_of_block Z5
  obtain ⟨q0, q1, q2, q3, q4, q5, q6, q7, q8, q9⟩ := obj10 Z5
  go_wp2_with (fail)
  refine (sameCell_ok r5 (c := zeroC) (ve' := .slice none 0 0) (vl' := .slice none 0 0) (vs' := .slice none 0 0) ⟨RdS.nil _ _, RdS.nil _ _, RdS.nil _ _⟩).mono ?_
  rintro e w6 ⟨rfl, f6⟩
  go_wp2_with (go_at_call 18; refine (num_ok _ _).mono ?_; rintro e w' ⟨rfl, rfl⟩)
  go_ret
  exact ⟨rfl, F5.trans f6⟩
set_option maxHeartbeats 8000000 in
set_option maxRecDepth 100000 in
theorem forms4 {w0 : World} (tab : Tab w0) (which x : Int) (hk : (IntKind.u64.wrap which).tmod 18 = 4) :
    Calls Tryz.prog 5 #[.int .i64 which, .int .i64 x] w0 fun e w' => e = .returned (.bool true) ∧ Frm No w0 w' := by
  obtain ⟨y, hy, hy1⟩ := mask_nat 63 x _ (and_63 x)
  have HA := Lib.hid (awake_ok tab)
  clear tab
  go_enter Tryz.func5, Tryz.ntmps5
  go_wp2_with (fail)
  refine HA.out.mono ?_
  rintro e w1 ⟨rfl, F1⟩
  clear HA
  go_wp2_with (fail)
  have FX : Frm No w1 (((((w1.alloc (.cells #[.int .i64 8, .int .i64 8] 3 (0, 0))).alloc (.cells #[.int .i64 1, .int .i64 9, .int .i64 4, .slice (some ⟨w1.heap.size, 0, none⟩) 2 2, .int .i64 4, .string ⟨#[84]⟩, .string ⟨#[105]⟩, .string ⟨#[102]⟩, .string ⟨#[]⟩, .int .i64 0, .int .i64 0, .int .i64 0, .int .i64 0, .slice none 0 0] 35 (0, 0))).alloc (.cells #[.int .i64 5, .int .i64 5] 3 (0, 0))).alloc (.cells #[.int .i64 0, .int .i64 2, .int .i64 3, .string ⟨#[97]⟩, .bool false, .int .i64 0, .int .i64 3, .int .i64 2, .string ⟨#[]⟩, .bool true] 59 (0, 0))).alloc (.cells #[.int .i64 3, .bool false, .int .i64 0, .int .i64 0, .string ⟨#[]⟩, .int .i64 0, .int .i64 0, .slice none 0 0, .slice (some ⟨w1.heap.size + 1 + 1 + 1, 0, none⟩) 2 2, .slice (some ⟨w1.heap.size + 1 + 1, 0, none⟩) 2 2] 30 (0, 0))) := (((((Frm.refl No w1).al _).al _).al _).al _).al _
  have hD : (((((w1.alloc (.cells #[.int .i64 8, .int .i64 8] 3 (0, 0))).alloc (.cells #[.int .i64 1, .int .i64 9, .int .i64 4, .slice (some ⟨w1.heap.size, 0, none⟩) 2 2, .int .i64 4, .string ⟨#[84]⟩, .string ⟨#[105]⟩, .string ⟨#[102]⟩, .string ⟨#[]⟩, .int .i64 0, .int .i64 0, .int .i64 0, .int .i64 0, .slice none 0 0] 35 (0, 0))).alloc (.cells #[.int .i64 5, .int .i64 5] 3 (0, 0))).alloc (.cells #[.int .i64 0, .int .i64 2, .int .i64 3, .string ⟨#[97]⟩, .bool false, .int .i64 0, .int .i64 3, .int .i64 2, .string ⟨#[]⟩, .bool true] 59 (0, 0))).alloc (.cells #[.int .i64 3, .bool false, .int .i64 0, .int .i64 0, .string ⟨#[]⟩, .int .i64 0, .int .i64 0, .slice none 0 0, .slice (some ⟨w1.heap.size + 1 + 1 + 1, 0, none⟩) 2 2, .slice (some ⟨w1.heap.size + 1 + 1, 0, none⟩) 2 2] 30 (0, 0))).heap[w1.heap.size]? = some (.cells #[.int .i64 8, .int .i64 8] 3 (0, 0)) := al_old (al_old (al_old (al_old (heap_alloc_new w1 _))))
  have hO : (((((w1.alloc (.cells #[.int .i64 8, .int .i64 8] 3 (0, 0))).alloc (.cells #[.int .i64 1, .int .i64 9, .int .i64 4, .slice (some ⟨w1.heap.size, 0, none⟩) 2 2, .int .i64 4, .string ⟨#[84]⟩, .string ⟨#[105]⟩, .string ⟨#[102]⟩, .string ⟨#[]⟩, .int .i64 0, .int .i64 0, .int .i64 0, .int .i64 0, .slice none 0 0] 35 (0, 0))).alloc (.cells #[.int .i64 5, .int .i64 5] 3 (0, 0))).alloc (.cells #[.int .i64 0, .int .i64 2, .int .i64 3, .string ⟨#[97]⟩, .bool false, .int .i64 0, .int .i64 3, .int .i64 2, .string ⟨#[]⟩, .bool true] 59 (0, 0))).alloc (.cells #[.int .i64 3, .bool false, .int .i64 0, .int .i64 0, .string ⟨#[]⟩, .int .i64 0, .int .i64 0, .slice none 0 0, .slice (some ⟨w1.heap.size + 1 + 1 + 1, 0, none⟩) 2 2, .slice (some ⟨w1.heap.size + 1 + 1, 0, none⟩) 2 2] 30 (0, 0))).heap[w1.heap.size + 1]? = some (.cells #[.int .i64 1, .int .i64 9, .int .i64 4, .slice (some ⟨w1.heap.size, 0, none⟩) 2 2, .int .i64 4, .string ⟨#[84]⟩, .string ⟨#[105]⟩, .string ⟨#[102]⟩, .string ⟨#[]⟩, .int .i64 0, .int .i64 0, .int .i64 0, .int .i64 0, .slice none 0 0] 35 (0, 0)) := al_old (al_old (al_old (al_at (by simp))))
  have hS : (((((w1.alloc (.cells #[.int .i64 8, .int .i64 8] 3 (0, 0))).alloc (.cells #[.int .i64 1, .int .i64 9, .int .i64 4, .slice (some ⟨w1.heap.size, 0, none⟩) 2 2, .int .i64 4, .string ⟨#[84]⟩, .string ⟨#[105]⟩, .string ⟨#[102]⟩, .string ⟨#[]⟩, .int .i64 0, .int .i64 0, .int .i64 0, .int .i64 0, .slice none 0 0] 35 (0, 0))).alloc (.cells #[.int .i64 5, .int .i64 5] 3 (0, 0))).alloc (.cells #[.int .i64 0, .int .i64 2, .int .i64 3, .string ⟨#[97]⟩, .bool false, .int .i64 0, .int .i64 3, .int .i64 2, .string ⟨#[]⟩, .bool true] 59 (0, 0))).alloc (.cells #[.int .i64 3, .bool false, .int .i64 0, .int .i64 0, .string ⟨#[]⟩, .int .i64 0, .int .i64 0, .slice none 0 0, .slice (some ⟨w1.heap.size + 1 + 1 + 1, 0, none⟩) 2 2, .slice (some ⟨w1.heap.size + 1 + 1, 0, none⟩) 2 2] 30 (0, 0))).heap[w1.heap.size + 1 + 1]? = some (.cells #[.int .i64 5, .int .i64 5] 3 (0, 0)) := al_old (al_old (al_at (by simp)))
  have hE : (((((w1.alloc (.cells #[.int .i64 8, .int .i64 8] 3 (0, 0))).alloc (.cells #[.int .i64 1, .int .i64 9, .int .i64 4, .slice (some ⟨w1.heap.size, 0, none⟩) 2 2, .int .i64 4, .string ⟨#[84]⟩, .string ⟨#[105]⟩, .string ⟨#[102]⟩, .string ⟨#[]⟩, .int .i64 0, .int .i64 0, .int .i64 0, .int .i64 0, .slice none 0 0] 35 (0, 0))).alloc (.cells #[.int .i64 5, .int .i64 5] 3 (0, 0))).alloc (.cells #[.int .i64 0, .int .i64 2, .int .i64 3, .string ⟨#[97]⟩, .bool false, .int .i64 0, .int .i64 3, .int .i64 2, .string ⟨#[]⟩, .bool true] 59 (0, 0))).alloc (.cells #[.int .i64 3, .bool false, .int .i64 0, .int .i64 0, .string ⟨#[]⟩, .int .i64 0, .int .i64 0, .slice none 0 0, .slice (some ⟨w1.heap.size + 1 + 1 + 1, 0, none⟩) 2 2, .slice (some ⟨w1.heap.size + 1 + 1, 0, none⟩) 2 2] 30 (0, 0))).heap[w1.heap.size + 1 + 1 + 1]? = some (.cells #[.int .i64 0, .int .i64 2, .int .i64 3, .string ⟨#[97]⟩, .bool false, .int .i64 0, .int .i64 3, .int .i64 2, .string ⟨#[]⟩, .bool true] 59 (0, 0)) := al_old (al_at (by simp))
  have hC : (((((w1.alloc (.cells #[.int .i64 8, .int .i64 8] 3 (0, 0))).alloc (.cells #[.int .i64 1, .int .i64 9, .int .i64 4, .slice (some ⟨w1.heap.size, 0, none⟩) 2 2, .int .i64 4, .string ⟨#[84]⟩, .string ⟨#[105]⟩, .string ⟨#[102]⟩, .string ⟨#[]⟩, .int .i64 0, .int .i64 0, .int .i64 0, .int .i64 0, .slice none 0 0] 35 (0, 0))).alloc (.cells #[.int .i64 5, .int .i64 5] 3 (0, 0))).alloc (.cells #[.int .i64 0, .int .i64 2, .int .i64 3, .string ⟨#[97]⟩, .bool false, .int .i64 0, .int .i64 3, .int .i64 2, .string ⟨#[]⟩, .bool true] 59 (0, 0))).alloc (.cells #[.int .i64 3, .bool false, .int .i64 0, .int .i64 0, .string ⟨#[]⟩, .int .i64 0, .int .i64 0, .slice none 0 0, .slice (some ⟨w1.heap.size + 1 + 1 + 1, 0, none⟩) 2 2, .slice (some ⟨w1.heap.size + 1 + 1, 0, none⟩) 2 2] 30 (0, 0))).heap[w1.heap.size + 1 + 1 + 1 + 1]? = some (.cells #[.int .i64 3, .bool false, .int .i64 0, .int .i64 0, .string ⟨#[]⟩, .int .i64 0, .int .i64 0, .slice none 0 0, .slice (some ⟨w1.heap.size + 1 + 1 + 1, 0, none⟩) 2 2, .slice (some ⟨w1.heap.size + 1 + 1, 0, none⟩) 2 2] 30 (0, 0)) := al_at (by simp)
  have z1 := F1.size
  have FX := F1.trans FX
  clear F1
  revert hD hO hS hE hC FX
  generalize (((((w1.alloc (.cells #[.int .i64 8, .int .i64 8] 3 (0, 0))).alloc (.cells #[.int .i64 1, .int .i64 9, .int .i64 4, .slice (some ⟨w1.heap.size, 0, none⟩) 2 2, .int .i64 4, .string ⟨#[84]⟩, .string ⟨#[105]⟩, .string ⟨#[102]⟩, .string ⟨#[]⟩, .int .i64 0, .int .i64 0, .int .i64 0, .int .i64 0, .slice none 0 0] 35 (0, 0))).alloc (.cells #[.int .i64 5, .int .i64 5] 3 (0, 0))).alloc (.cells #[.int .i64 0, .int .i64 2, .int .i64 3, .string ⟨#[97]⟩, .bool false, .int .i64 0, .int .i64 3, .int .i64 2, .string ⟨#[]⟩, .bool true] 59 (0, 0))).alloc (.cells #[.int .i64 3, .bool false, .int .i64 0, .int .i64 0, .string ⟨#[]⟩, .int .i64 0, .int .i64 0, .slice none 0 0, .slice (some ⟨w1.heap.size + 1 + 1 + 1, 0, none⟩) 2 2, .slice (some ⟨w1.heap.size + 1 + 1, 0, none⟩) 2 2] 30 (0, 0))) = X
  intro hD hO hS hE hC FX
  have oD : Ow X (fun k => k = w1.heap.size) 3 eInt (.slice (some ⟨w1.heap.size, 0, none⟩) 2 2) [8, 8] := Ow.row (l := [8, 8]) (c := 2) hD rfl (by decide) (by decide) rfl rfl
  have oS : Ow X (fun k => k = w1.heap.size + 1 + 1) 3 eInt (.slice (some ⟨w1.heap.size + 1 + 1, 0, none⟩) 2 2) [5, 5] := Ow.row (l := [5, 5]) (c := 2) hS rfl (by decide) (by decide) rfl rfl
  have oE : Ow X (fun k => k = w1.heap.size + 1 + 1 + 1) 59 eEl (.slice (some ⟨w1.heap.size + 1 + 1 + 1, 0, none⟩) 2 2) [(0, 2, 3, ⟨#[97]⟩, false), (0, 3, 2, ⟨#[]⟩, true)] := Ow.row (E := eEl) (l := ([(0, 2, 3, ⟨#[97]⟩, false), (0, 3, 2, ⟨#[]⟩, true)] : List El)) (c := 2) hE rfl (by decide) (by decide) rfl rfl
  refine (may_G ⟨RdS.nil _ _, oE.rd, oS.rd⟩).mono ?_
  rintro e w2 ⟨rfl, f2⟩
  have F2 := FX.trans f2
  have C2 := f2.obj hC id
  have O2 := f2.obj hO id
  have D2 := oD.no f2
  have S2 := oS.no f2
  have E2 := oE.no f2
  clear FX hD hO hS hE hC oD oS oE f2
  go_wp2_with (refine wpList_stoC _ rfl (.tmp 59) (.const (.bool true)) 4 rfl C2 (vs := [.bool true]) rfl (by kernel_rfl) (by show 1 + 1 ≤ 10; omega) (by intro u hu; simp at hu; subst hu; rfl) rfl rfl #[.int .i64 3, .bool true, .int .i64 0, .int .i64 0, .string ⟨#[]⟩, .int .i64 0, .int .i64 0, .slice none 0 0, .slice (some ⟨w1.heap.size + 1 + 1 + 1, 0, none⟩) 2 2, .slice (some ⟨w1.heap.size + 1 + 1, 0, none⟩) 2 2] rfl ?_)
  intro w3 C3 f3 z3
  have F3 := F2.then f3 fun k hk e => by have := lt_of_block C2; omega
  have O3 := f3.obj O2 (by omega)
  have D3 := D2.frm f3 fun k hk e => by omega
  have S3 := S2.frm f3 fun k hk e => by omega
  have E3 := E2.frm f3 fun k hk e => by omega
  clear F2 O2 D2 S2 E2 f3 C2
  obtain ⟨q0, q1, q2, q3, q4, q5, q6, q7, q8, q9⟩ := obj10 C3
  obtain ⟨t0, t1, t2, t3, t4, t5, t6, t7, t8, t9, t10, t11, t12, t13⟩ := obj14 O3
  have hF : ∀ x1 x2 x3, cval (fB 4 (y + 1)) x1 x2 x3 = (fun x1 x2 x3 => .agg #[.int .i64 3, .bool true, .int .i64 0, .int .i64 0, .string ⟨#[]⟩, .int .i64 0, .int .i64 0, x1, x2, x3]) x1 x2 x3 := fun x1 x2 x3 => by
    rfl
  have HM := fB_may ⟨4, by omega⟩ ⟨y, by omega⟩ (by show (4 : Nat) ≠ 12; decide)
  have HZ : CellZ (fB 4 (y + 1)) := ⟨fG_z.v, fG_z.e, fG_z.l⟩
  go_wp2_with (fail)
  have R3 : CellR w3 (fB 4 (y + 1)) (.slice none 0 0) (.slice (some ⟨w1.heap.size + 1 + 1 + 1, 0, none⟩) 2 2) (.slice (some ⟨w1.heap.size + 1 + 1, 0, none⟩) 2 2) := ⟨RdS.nil _ _, E3.rd, S3.rd⟩
  have HB : CellB (fB 4 (y + 1)) := ⟨(by show 0 * 32 ≤ _; unfold reachBytes; omega), (by show 2 * 48 ≤ _; unfold reachBytes; omega), (by show 2 * 8 ≤ _; unfold reachBytes; omega)⟩
  refine (apply_no hF HM R3 HB HZ (o := ⟨(1, 9), 4, [8, 8], 4, ⟨#[84]⟩, ⟨#[105]⟩, ⟨#[102]⟩, ⟨#[]⟩, (0, 0), (0, 0), []⟩) ⟨D3.rd, RdS.nil _ _⟩ ⟨by decide, by decide, by decide, by decide⟩).mono ?_
  rintro e w4 ⟨b1, d1, b2, d2, b3, d3, rfl, r4, f4⟩
  have F4 := F3.trans f4
  have R4 := R3.no f4
  have C4 := f4.obj C3 id
  clear F3 R3 C3 O3 D3 S3 E3 f4 q0 q1 q2 q3 q4 q5 q6 q7 q8 q9 t0 t1 t2 t3 t4 t5 t6 t7 t8 t9 t10 t11 t12 t13
  have n4 := lt_of_block C4
  obtain ⟨q0, q1, q2, q3, q4, q5, q6, q7, q8, q9⟩ := obj10 C4
  go_wp2_with (fail)
  have G4 := (Frm.refl No w4).al (.cells #[.int .i64 0, .bool false, .int .i64 0, .int .i64 0, .string ⟨#[]⟩, .int .i64 0, .int .i64 0, .slice b1 0 d1, .slice b2 0 d2, .slice b3 0 d3] 30 (0, 0))
  refine (may_no hF HM (R4.no G4) HZ).mono ?_
  rintro e w5 ⟨rfl, f5⟩
  have Z5 := f5.obj (heap_alloc_new w4 (.cells #[.int .i64 0, .bool false, .int .i64 0, .int .i64 0, .string ⟨#[]⟩, .int .i64 0, .int .i64 0, .slice b1 0 d1, .slice b2 0 d2, .slice b3 0 d3] 30 (0, 0))) id
  have G5 := G4.trans f5
  have F5 := F4.trans G5
  have r5 := r4.no G5
  clear F4 R4 C4 G4 G5 f5 r4 n4 q0 q1 q2 q3 q4 q5 q6 q7 q8 q9
  have n5 := lt_of_block Z5
  obtain ⟨q0, q1, q2, q3, q4, q5, q6, q7, q8, q9⟩ := obj10 Z5
  go_wp2_with (fail)
  refine (sameCell_ok r5 (c := zeroC) (ve' := .slice none 0 0) (vl' := .slice none 0 0) (vs' := .slice none 0 0) ⟨RdS.nil _ _, RdS.nil _ _, RdS.nil _ _⟩).mono ?_
  rintro e w6 ⟨rfl, f6⟩
  go_wp2_with (go_at_call 18; refine (num_ok _ _).mono ?_; rintro e w' ⟨rfl, rfl⟩)
  go_ret
  exact ⟨rfl, F5.trans f6⟩
set_option maxHeartbeats 8000000 in
set_option maxRecDepth 100000 in
theorem forms5 {w0 : World} (tab : Tab w0) (which x : Int) (hk : (IntKind.u64.wrap which).tmod 18 = 5) :
    Calls Tryz.prog 5 #[.int .i64 which, .int .i64 x] w0 fun e w' => e = .returned (.bool true) ∧ Frm No w0 w' := by
  obtain ⟨y, hy, hy1⟩ := mask_nat 63 x _ (and_63 x)
  have HA := Lib.hid (awake_ok tab)
  clear tab
  go_enter Tryz.func5, Tryz.ntmps5
  go_wp2_with (fail)
  refine HA.out.mono ?_
  rintro e w1 ⟨rfl, F1⟩
  clear HA
  go_wp2_with (fail)
  have FX : Frm No w1 (((((w1.alloc (.cells #[.int .i64 8, .int .i64 8] 3 (0, 0))).alloc (.cells #[.int .i64 1, .int .i64 9, .int .i64 4, .slice (some ⟨w1.heap.size, 0, none⟩) 2 2, .int .i64 4, .string ⟨#[84]⟩, .string ⟨#[105]⟩, .string ⟨#[102]⟩, .string ⟨#[]⟩, .int .i64 0, .int .i64 0, .int .i64 0, .int .i64 0, .slice none 0 0] 35 (0, 0))).alloc (.cells #[.int .i64 5, .int .i64 5] 3 (0, 0))).alloc (.cells #[.int .i64 0, .int .i64 2, .int .i64 3, .string ⟨#[97]⟩, .bool false, .int .i64 0, .int .i64 3, .int .i64 2, .string ⟨#[]⟩, .bool true] 59 (0, 0))).alloc (.cells #[.int .i64 3, .bool false, .int .i64 0, .int .i64 0, .string ⟨#[]⟩, .int .i64 0, .int .i64 0, .slice none 0 0, .slice (some ⟨w1.heap.size + 1 + 1 + 1, 0, none⟩) 2 2, .slice (some ⟨w1.heap.size + 1 + 1, 0, none⟩) 2 2] 30 (0, 0))) := (((((Frm.refl No w1).al _).al _).al _).al _).al _
  have hD : (((((w1.alloc (.cells #[.int .i64 8, .int .i64 8] 3 (0, 0))).alloc (.cells #[.int .i64 1, .int .i64 9, .int .i64 4, .slice (some ⟨w1.heap.size, 0, none⟩) 2 2, .int .i64 4, .string ⟨#[84]⟩, .string ⟨#[105]⟩, .string ⟨#[102]⟩, .string ⟨#[]⟩, .int .i64 0, .int .i64 0, .int .i64 0, .int .i64 0, .slice none 0 0] 35 (0, 0))).alloc (.cells #[.int .i64 5, .int .i64 5] 3 (0, 0))).alloc (.cells #[.int .i64 0, .int .i64 2, .int .i64 3, .string ⟨#[97]⟩, .bool false, .int .i64 0, .int .i64 3, .int .i64 2, .string ⟨#[]⟩, .bool true] 59 (0, 0))).alloc (.cells #[.int .i64 3, .bool false, .int .i64 0, .int .i64 0, .string ⟨#[]⟩, .int .i64 0, .int .i64 0, .slice none 0 0, .slice (some ⟨w1.heap.size + 1 + 1 + 1, 0, none⟩) 2 2, .slice (some ⟨w1.heap.size + 1 + 1, 0, none⟩) 2 2] 30 (0, 0))).heap[w1.heap.size]? = some (.cells #[.int .i64 8, .int .i64 8] 3 (0, 0)) := al_old (al_old (al_old (al_old (heap_alloc_new w1 _))))
  have hO : (((((w1.alloc (.cells #[.int .i64 8, .int .i64 8] 3 (0, 0))).alloc (.cells #[.int .i64 1, .int .i64 9, .int .i64 4, .slice (some ⟨w1.heap.size, 0, none⟩) 2 2, .int .i64 4, .string ⟨#[84]⟩, .string ⟨#[105]⟩, .string ⟨#[102]⟩, .string ⟨#[]⟩, .int .i64 0, .int .i64 0, .int .i64 0, .int .i64 0, .slice none 0 0] 35 (0, 0))).alloc (.cells #[.int .i64 5, .int .i64 5] 3 (0, 0))).alloc (.cells #[.int .i64 0, .int .i64 2, .int .i64 3, .string ⟨#[97]⟩, .bool false, .int .i64 0, .int .i64 3, .int .i64 2, .string ⟨#[]⟩, .bool true] 59 (0, 0))).alloc (.cells #[.int .i64 3, .bool false, .int .i64 0, .int .i64 0, .string ⟨#[]⟩, .int .i64 0, .int .i64 0, .slice none 0 0, .slice (some ⟨w1.heap.size + 1 + 1 + 1, 0, none⟩) 2 2, .slice (some ⟨w1.heap.size + 1 + 1, 0, none⟩) 2 2] 30 (0, 0))).heap[w1.heap.size + 1]? = some (.cells #[.int .i64 1, .int .i64 9, .int .i64 4, .slice (some ⟨w1.heap.size, 0, none⟩) 2 2, .int .i64 4, .string ⟨#[84]⟩, .string ⟨#[105]⟩, .string ⟨#[102]⟩, .string ⟨#[]⟩, .int .i64 0, .int .i64 0, .int .i64 0, .int .i64 0, .slice none 0 0] 35 (0, 0)) := al_old (al_old (al_old (al_at (by simp))))
  have hS : (((((w1.alloc (.cells #[.int .i64 8, .int .i64 8] 3 (0, 0))).alloc (.cells #[.int .i64 1, .int .i64 9, .int .i64 4, .slice (some ⟨w1.heap.size, 0, none⟩) 2 2, .int .i64 4, .string ⟨#[84]⟩, .string ⟨#[105]⟩, .string ⟨#[102]⟩, .string ⟨#[]⟩, .int .i64 0, .int .i64 0, .int .i64 0, .int .i64 0, .slice none 0 0] 35 (0, 0))).alloc (.cells #[.int .i64 5, .int .i64 5] 3 (0, 0))).alloc (.cells #[.int .i64 0, .int .i64 2, .int .i64 3, .string ⟨#[97]⟩, .bool false, .int .i64 0, .int .i64 3, .int .i64 2, .string ⟨#[]⟩, .bool true] 59 (0, 0))).alloc (.cells #[.int .i64 3, .bool false, .int .i64 0, .int .i64 0, .string ⟨#[]⟩, .int .i64 0, .int .i64 0, .slice none 0 0, .slice (some ⟨w1.heap.size + 1 + 1 + 1, 0, none⟩) 2 2, .slice (some ⟨w1.heap.size + 1 + 1, 0, none⟩) 2 2] 30 (0, 0))).heap[w1.heap.size + 1 + 1]? = some (.cells #[.int .i64 5, .int .i64 5] 3 (0, 0)) := al_old (al_old (al_at (by simp)))
  have hE : (((((w1.alloc (.cells #[.int .i64 8, .int .i64 8] 3 (0, 0))).alloc (.cells #[.int .i64 1, .int .i64 9, .int .i64 4, .slice (some ⟨w1.heap.size, 0, none⟩) 2 2, .int .i64 4, .string ⟨#[84]⟩, .string ⟨#[105]⟩, .string ⟨#[102]⟩, .string ⟨#[]⟩, .int .i64 0, .int .i64 0, .int .i64 0, .int .i64 0, .slice none 0 0] 35 (0, 0))).alloc (.cells #[.int .i64 5, .int .i64 5] 3 (0, 0))).alloc (.cells #[.int .i64 0, .int .i64 2, .int .i64 3, .string ⟨#[97]⟩, .bool false, .int .i64 0, .int .i64 3, .int .i64 2, .string ⟨#[]⟩, .bool true] 59 (0, 0))).alloc (.cells #[.int .i64 3, .bool false, .int .i64 0, .int .i64 0, .string ⟨#[]⟩, .int .i64 0, .int .i64 0, .slice none 0 0, .slice (some ⟨w1.heap.size + 1 + 1 + 1, 0, none⟩) 2 2, .slice (some ⟨w1.heap.size + 1 + 1, 0, none⟩) 2 2] 30 (0, 0))).heap[w1.heap.size + 1 + 1 + 1]? = some (.cells #[.int .i64 0, .int .i64 2, .int .i64 3, .string ⟨#[97]⟩, .bool false, .int .i64 0, .int .i64 3, .int .i64 2, .string ⟨#[]⟩, .bool true] 59 (0, 0)) := al_old (al_at (by simp))
  have hC : (((((w1.alloc (.cells #[.int .i64 8, .int .i64 8] 3 (0, 0))).alloc (.cells #[.int .i64 1, .int .i64 9, .int .i64 4, .slice (some ⟨w1.heap.size, 0, none⟩) 2 2, .int .i64 4, .string ⟨#[84]⟩, .string ⟨#[105]⟩, .string ⟨#[102]⟩, .string ⟨#[]⟩, .int .i64 0, .int .i64 0, .int .i64 0, .int .i64 0, .slice none 0 0] 35 (0, 0))).alloc (.cells #[.int .i64 5, .int .i64 5] 3 (0, 0))).alloc (.cells #[.int .i64 0, .int .i64 2, .int .i64 3, .string ⟨#[97]⟩, .bool false, .int .i64 0, .int .i64 3, .int .i64 2, .string ⟨#[]⟩, .bool true] 59 (0, 0))).alloc (.cells #[.int .i64 3, .bool false, .int .i64 0, .int .i64 0, .string ⟨#[]⟩, .int .i64 0, .int .i64 0, .slice none 0 0, .slice (some ⟨w1.heap.size + 1 + 1 + 1, 0, none⟩) 2 2, .slice (some ⟨w1.heap.size + 1 + 1, 0, none⟩) 2 2] 30 (0, 0))).heap[w1.heap.size + 1 + 1 + 1 + 1]? = some (.cells #[.int .i64 3, .bool false, .int .i64 0, .int .i64 0, .string ⟨#[]⟩, .int .i64 0, .int .i64 0, .slice none 0 0, .slice (some ⟨w1.heap.size + 1 + 1 + 1, 0, none⟩) 2 2, .slice (some ⟨w1.heap.size + 1 + 1, 0, none⟩) 2 2] 30 (0, 0)) := al_at (by simp)
  have z1 := F1.size
  have FX := F1.trans FX
  clear F1
  revert hD hO hS hE hC FX
  generalize (((((w1.alloc (.cells #[.int .i64 8, .int .i64 8] 3 (0, 0))).alloc (.cells #[.int .i64 1, .int .i64 9, .int .i64 4, .slice (some ⟨w1.heap.size, 0, none⟩) 2 2, .int .i64 4, .string ⟨#[84]⟩, .string ⟨#[105]⟩, .string ⟨#[102]⟩, .string ⟨#[]⟩, .int .i64 0, .int .i64 0, .int .i64 0, .int .i64 0, .slice none 0 0] 35 (0, 0))).alloc (.cells #[.int .i64 5, .int .i64 5] 3 (0, 0))).alloc (.cells #[.int .i64 0, .int .i64 2, .int .i64 3, .string ⟨#[97]⟩, .bool false, .int .i64 0, .int .i64 3, .int .i64 2, .string ⟨#[]⟩, .bool true] 59 (0, 0))).alloc (.cells #[.int .i64 3, .bool false, .int .i64 0, .int .i64 0, .string ⟨#[]⟩, .int .i64 0, .int .i64 0, .slice none 0 0, .slice (some ⟨w1.heap.size + 1 + 1 + 1, 0, none⟩) 2 2, .slice (some ⟨w1.heap.size + 1 + 1, 0, none⟩) 2 2] 30 (0, 0))) = X
  intro hD hO hS hE hC FX
  have oD : Ow X (fun k => k = w1.heap.size) 3 eInt (.slice (some ⟨w1.heap.size, 0, none⟩) 2 2) [8, 8] := Ow.row (l := [8, 8]) (c := 2) hD rfl (by decide) (by decide) rfl rfl
  have oS : Ow X (fun k => k = w1.heap.size + 1 + 1) 3 eInt (.slice (some ⟨w1.heap.size + 1 + 1, 0, none⟩) 2 2) [5, 5] := Ow.row (l := [5, 5]) (c := 2) hS rfl (by decide) (by decide) rfl rfl
  have oE : Ow X (fun k => k = w1.heap.size + 1 + 1 + 1) 59 eEl (.slice (some ⟨w1.heap.size + 1 + 1 + 1, 0, none⟩) 2 2) [(0, 2, 3, ⟨#[97]⟩, false), (0, 3, 2, ⟨#[]⟩, true)] := Ow.row (E := eEl) (l := ([(0, 2, 3, ⟨#[97]⟩, false), (0, 3, 2, ⟨#[]⟩, true)] : List El)) (c := 2) hE rfl (by decide) (by decide) rfl rfl
  refine (may_G ⟨RdS.nil _ _, oE.rd, oS.rd⟩).mono ?_
  rintro e w2 ⟨rfl, f2⟩
  have F2 := FX.trans f2
  have C2 := f2.obj hC id
  have O2 := f2.obj hO id
  have D2 := oD.no f2
  have S2 := oS.no f2
  have E2 := oE.no f2
  clear FX hD hO hS hE hC oD oS oE f2
  go_wp2_with (refine wpList_stoC _ rfl (.tmp 62) (.const (.string ⟨#[120]⟩)) 9 rfl C2 (vs := [.string ⟨#[120]⟩]) rfl (by kernel_rfl) (by show 4 + 1 ≤ 10; omega) (by intro u hu; simp at hu; subst hu; rfl) rfl rfl #[.int .i64 3, .bool false, .int .i64 0, .int .i64 0, .string ⟨#[120]⟩, .int .i64 0, .int .i64 0, .slice none 0 0, .slice (some ⟨w1.heap.size + 1 + 1 + 1, 0, none⟩) 2 2, .slice (some ⟨w1.heap.size + 1 + 1, 0, none⟩) 2 2] rfl ?_)
  intro w3 C3 f3 z3
  have F3 := F2.then f3 fun k hk e => by have := lt_of_block C2; omega
  have O3 := f3.obj O2 (by omega)
  have D3 := D2.frm f3 fun k hk e => by omega
  have S3 := S2.frm f3 fun k hk e => by omega
  have E3 := E2.frm f3 fun k hk e => by omega
  clear F2 O2 D2 S2 E2 f3 C2
  obtain ⟨q0, q1, q2, q3, q4, q5, q6, q7, q8, q9⟩ := obj10 C3
  obtain ⟨t0, t1, t2, t3, t4, t5, t6, t7, t8, t9, t10, t11, t12, t13⟩ := obj14 O3
  have hF : ∀ x1 x2 x3, cval (fB 5 (y + 1)) x1 x2 x3 = (fun x1 x2 x3 => .agg #[.int .i64 3, .bool false, .int .i64 0, .int .i64 0, .string ⟨#[120]⟩, .int .i64 0, .int .i64 0, x1, x2, x3]) x1 x2 x3 := fun x1 x2 x3 => by
    rfl
  have HM := fB_may ⟨5, by omega⟩ ⟨y, by omega⟩ (by show (5 : Nat) ≠ 12; decide)
  have HZ : CellZ (fB 5 (y + 1)) := ⟨(by show 1 ≤ _; omega), fG_z.e, fG_z.l⟩
  go_wp2_with (fail)
  have R3 : CellR w3 (fB 5 (y + 1)) (.slice none 0 0) (.slice (some ⟨w1.heap.size + 1 + 1 + 1, 0, none⟩) 2 2) (.slice (some ⟨w1.heap.size + 1 + 1, 0, none⟩) 2 2) := ⟨RdS.nil _ _, E3.rd, S3.rd⟩
  have HB : CellB (fB 5 (y + 1)) := ⟨(by show 0 * 32 ≤ _; unfold reachBytes; omega), (by show 2 * 48 ≤ _; unfold reachBytes; omega), (by show 2 * 8 ≤ _; unfold reachBytes; omega)⟩
  refine (apply_no hF HM R3 HB HZ (o := ⟨(1, 9), 4, [8, 8], 4, ⟨#[84]⟩, ⟨#[105]⟩, ⟨#[102]⟩, ⟨#[]⟩, (0, 0), (0, 0), []⟩) ⟨D3.rd, RdS.nil _ _⟩ ⟨by decide, by decide, by decide, by decide⟩).mono ?_
  rintro e w4 ⟨b1, d1, b2, d2, b3, d3, rfl, r4, f4⟩
  have F4 := F3.trans f4
  have R4 := R3.no f4
  have C4 := f4.obj C3 id
  clear F3 R3 C3 O3 D3 S3 E3 f4 q0 q1 q2 q3 q4 q5 q6 q7 q8 q9 t0 t1 t2 t3 t4 t5 t6 t7 t8 t9 t10 t11 t12 t13
  have n4 := lt_of_block C4
  obtain ⟨q0, q1, q2, q3, q4, q5, q6, q7, q8, q9⟩ := obj10 C4
  go_wp2_with (fail)
  have G4 := (Frm.refl No w4).al (.cells #[.int .i64 0, .bool false, .int .i64 0, .int .i64 0, .string ⟨#[]⟩, .int .i64 0, .int .i64 0, .slice b1 0 d1, .slice b2 0 d2, .slice b3 0 d3] 30 (0, 0))
  refine (may_no hF HM (R4.no G4) HZ).mono ?_
  rintro e w5 ⟨rfl, f5⟩
  have Z5 := f5.obj (heap_alloc_new w4 (.cells #[.int .i64 0, .bool false, .int .i64 0, .int .i64 0, .string ⟨#[]⟩, .int .i64 0, .int .i64 0, .slice b1 0 d1, .slice b2 0 d2, .slice b3 0 d3] 30 (0, 0))) id
  have G5 := G4.trans f5
  have F5 := F4.trans G5
  have r5 := r4.no G5
  clear F4 R4 C4 G4 G5 f5 r4 n4 q0 q1 q2 q3 q4 q5 q6 q7 q8 q9
  have n5 := lt_of_block Z5
  obtain ⟨q0, q1, q2, q3, q4, q5, q6, q7, q8, q9⟩ := obj10 Z5
  go_wp2_with (fail)
  refine (sameCell_ok r5 (c := zeroC) (ve' := .slice none 0 0) (vl' := .slice none 0 0) (vs' := .slice none 0 0) ⟨RdS.nil _ _, RdS.nil _ _, RdS.nil _ _⟩).mono ?_
  rintro e w6 ⟨rfl, f6⟩
  go_wp2_with (go_at_call 18; refine (num_ok _ _).mono ?_; rintro e w' ⟨rfl, rfl⟩)
  go_ret
  exact ⟨rfl, F5.trans f6⟩
set_option maxHeartbeats 8000000 in
set_option maxRecDepth 100000 in
theorem forms6 {w0 : World} (tab : Tab w0) (which x : Int) (hk : (IntKind.u64.wrap which).tmod 18 = 6) :
    Calls Tryz.prog 5 #[.int .i64 which, .int .i64 x] w0 fun e w' => e = .returned (.bool true) ∧ Frm No w0 w' := by
  obtain ⟨y, hy, hy1⟩ := mask_nat 63 x _ (and_63 x)
  have HA := Lib.hid (awake_ok tab)
  clear tab
  go_enter Tryz.func5, Tryz.ntmps5
  go_wp2_with (fail)
  refine HA.out.mono ?_
  rintro e w1 ⟨rfl, F1⟩
  clear HA
  go_wp2_with (fail)
  have FX : Frm No w1 (((((w1.alloc (.cells #[.int .i64 8, .int .i64 8] 3 (0, 0))).alloc (.cells #[.int .i64 1, .int .i64 9, .int .i64 4, .slice (some ⟨w1.heap.size, 0, none⟩) 2 2, .int .i64 4, .string ⟨#[84]⟩, .string ⟨#[105]⟩, .string ⟨#[102]⟩, .string ⟨#[]⟩, .int .i64 0, .int .i64 0, .int .i64 0, .int .i64 0, .slice none 0 0] 35 (0, 0))).alloc (.cells #[.int .i64 5, .int .i64 5] 3 (0, 0))).alloc (.cells #[.int .i64 0, .int .i64 2, .int .i64 3, .string ⟨#[97]⟩, .bool false, .int .i64 0, .int .i64 3, .int .i64 2, .string ⟨#[]⟩, .bool true] 59 (0, 0))).alloc (.cells #[.int .i64 3, .bool false, .int .i64 0, .int .i64 0, .string ⟨#[]⟩, .int .i64 0, .int .i64 0, .slice none 0 0, .slice (some ⟨w1.heap.size + 1 + 1 + 1, 0, none⟩) 2 2, .slice (some ⟨w1.heap.size + 1 + 1, 0, none⟩) 2 2] 30 (0, 0))) := (((((Frm.refl No w1).al _).al _).al _).al _).al _
  have hD : (((((w1.alloc (.cells #[.int .i64 8, .int .i64 8] 3 (0, 0))).alloc (.cells #[.int .i64 1, .int .i64 9, .int .i64 4, .slice (some ⟨w1.heap.size, 0, none⟩) 2 2, .int .i64 4, .string ⟨#[84]⟩, .string ⟨#[105]⟩, .string ⟨#[102]⟩, .string ⟨#[]⟩, .int .i64 0, .int .i64 0, .int .i64 0, .int .i64 0, .slice none 0 0] 35 (0, 0))).alloc (.cells #[.int .i64 5, .int .i64 5] 3 (0, 0))).alloc (.cells #[.int .i64 0, .int .i64 2, .int .i64 3, .string ⟨#[97]⟩, .bool false, .int .i64 0, .int .i64 3, .int .i64 2, .string ⟨#[]⟩, .bool true] 59 (0, 0))).alloc (.cells #[.int .i64 3, .bool false, .int .i64 0, .int .i64 0, .string ⟨#[]⟩, .int .i64 0, .int .i64 0, .slice none 0 0, .slice (some ⟨w1.heap.size + 1 + 1 + 1, 0, none⟩) 2 2, .slice (some ⟨w1.heap.size + 1 + 1, 0, none⟩) 2 2] 30 (0, 0))).heap[w1.heap.size]? = some (.cells #[.int .i64 8, .int .i64 8] 3 (0, 0)) := al_old (al_old (al_old (al_old (heap_alloc_new w1 _))))
  have hO : (((((w1.alloc (.cells #[.int .i64 8, .int .i64 8] 3 (0, 0))).alloc (.cells #[.int .i64 1, .int .i64 9, .int .i64 4, .slice (some ⟨w1.heap.size, 0, none⟩) 2 2, .int .i64 4, .string ⟨#[84]⟩, .string ⟨#[105]⟩, .string ⟨#[102]⟩, .string ⟨#[]⟩, .int .i64 0, .int .i64 0, .int .i64 0, .int .i64 0, .slice none 0 0] 35 (0, 0))).alloc (.cells #[.int .i64 5, .int .i64 5] 3 (0, 0))).alloc (.cells #[.int .i64 0, .int .i64 2, .int .i64 3, .string ⟨#[97]⟩, .bool false, .int .i64 0, .int .i64 3, .int .i64 2, .string ⟨#[]⟩, .bool true] 59 (0, 0))).alloc (.cells #[.int .i64 3, .bool false, .int .i64 0, .int .i64 0, .string ⟨#[]⟩, .int .i64 0, .int .i64 0, .slice none 0 0, .slice (some ⟨w1.heap.size + 1 + 1 + 1, 0, none⟩) 2 2, .slice (some ⟨w1.heap.size + 1 + 1, 0, none⟩) 2 2] 30 (0, 0))).heap[w1.heap.size + 1]? = some (.cells #[.int .i64 1, .int .i64 9, .int .i64 4, .slice (some ⟨w1.heap.size, 0, none⟩) 2 2, .int .i64 4, .string ⟨#[84]⟩, .string ⟨#[105]⟩, .string ⟨#[102]⟩, .string ⟨#[]⟩, .int .i64 0, .int .i64 0, .int .i64 0, .int .i64 0, .slice none 0 0] 35 (0, 0)) := al_old (al_old (al_old (al_at (by simp))))
  have hS : (((((w1.alloc (.cells #[.int .i64 8, .int .i64 8] 3 (0, 0))).alloc (.cells #[.int .i64 1, .int .i64 9, .int .i64 4, .slice (some ⟨w1.heap.size, 0, none⟩) 2 2, .int .i64 4, .string ⟨#[84]⟩, .string ⟨#[105]⟩, .string ⟨#[102]⟩, .string ⟨#[]⟩, .int .i64 0, .int .i64 0, .int .i64 0, .int .i64 0, .slice none 0 0] 35 (0, 0))).alloc (.cells #[.int .i64 5, .int .i64 5] 3 (0, 0))).alloc (.cells #[.int .i64 0, .int .i64 2, .int .i64 3, .string ⟨#[97]⟩, .bool false, .int .i64 0, .int .i64 3, .int .i64 2, .string ⟨#[]⟩, .bool true] 59 (0, 0))).alloc (.cells #[.int .i64 3, .bool false, .int .i64 0, .int .i64 0, .string ⟨#[]⟩, .int .i64 0, .int .i64 0, .slice none 0 0, .slice (some ⟨w1.heap.size + 1 + 1 + 1, 0, none⟩) 2 2, .slice (some ⟨w1.heap.size + 1 + 1, 0, none⟩) 2 2] 30 (0, 0))).heap[w1.heap.size + 1 + 1]? = some (.cells #[.int .i64 5, .int .i64 5] 3 (0, 0)) := al_old (al_old (al_at (by simp)))
  have hE : (((((w1.alloc (.cells #[.int .i64 8, .int .i64 8] 3 (0, 0))).alloc (.cells #[.int .i64 1, .int .i64 9, .int .i64 4, .slice (some ⟨w1.heap.size, 0, none⟩) 2 2, .int .i64 4, .string ⟨#[84]⟩, .string ⟨#[105]⟩, .string ⟨#[102]⟩, .string ⟨#[]⟩, .int .i64 0, .int .i64 0, .int .i64 0, .int .i64 0, .slice none 0 0] 35 (0, 0))).alloc (.cells #[.int .i64 5, .int .i64 5] 3 (0, 0))).alloc (.cells #[.int .i64 0, .int .i64 2, .int .i64 3, .string ⟨#[97]⟩, .bool false, .int .i64 0, .int .i64 3, .int .i64 2, .string ⟨#[]⟩, .bool true] 59 (0, 0))).alloc (.cells #[.int .i64 3, .bool false, .int .i64 0, .int .i64 0, .string ⟨#[]⟩, .int .i64 0, .int .i64 0, .slice none 0 0, .slice (some ⟨w1.heap.size + 1 + 1 + 1, 0, none⟩) 2 2, .slice (some ⟨w1.heap.size + 1 + 1, 0, none⟩) 2 2] 30 (0, 0))).heap[w1.heap.size + 1 + 1 + 1]? = some (.cells #[.int .i64 0, .int .i64 2, .int .i64 3, .string ⟨#[97]⟩, .bool false, .int .i64 0, .int .i64 3, .int .i64 2, .string ⟨#[]⟩, .bool true] 59 (0, 0)) := al_old (al_at (by simp))
  have hC : (((((w1.alloc (.cells #[.int .i64 8, .int .i64 8] 3 (0, 0))).alloc (.cells #[.int .i64 1, .int .i64 9, .int .i64 4, .slice (some ⟨w1.heap.size, 0, none⟩) 2 2, .int .i64 4, .string ⟨#[84]⟩, .string ⟨#[105]⟩, .string ⟨#[102]⟩, .string ⟨#[]⟩, .int .i64 0, .int .i64 0, .int .i64 0, .int .i64 0, .slice none 0 0] 35 (0, 0))).alloc (.cells #[.int .i64 5, .int .i64 5] 3 (0, 0))).alloc (.cells #[.int .i64 0, .int .i64 2, .int .i64 3, .string ⟨#[97]⟩, .bool false, .int .i64 0, .int .i64 3, .int .i64 2, .string ⟨#[]⟩, .bool true] 59 (0, 0))).alloc (.cells #[.int .i64 3, .bool false, .int .i64 0, .int .i64 0, .string ⟨#[]⟩, .int .i64 0, .int .i64 0, .slice none 0 0, .slice (some ⟨w1.heap.size + 1 + 1 + 1, 0, none⟩) 2 2, .slice (some ⟨w1.heap.size + 1 + 1, 0, none⟩) 2 2] 30 (0, 0))).heap[w1.heap.size + 1 + 1 + 1 + 1]? = some (.cells #[.int .i64 3, .bool false, .int .i64 0, .int .i64 0, .string ⟨#[]⟩, .int .i64 0, .int .i64 0, .slice none 0 0, .slice (some ⟨w1.heap.size + 1 + 1 + 1, 0, none⟩) 2 2, .slice (some ⟨w1.heap.size + 1 + 1, 0, none⟩) 2 2] 30 (0, 0)) := al_at (by simp)
  have z1 := F1.size
  have FX := F1.trans FX
  clear F1
  revert hD hO hS hE hC FX
  generalize (((((w1.alloc (.cells #[.int .i64 8, .int .i64 8] 3 (0, 0))).alloc (.cells #[.int .i64 1, .int .i64 9, .int .i64 4, .slice (some ⟨w1.heap.size, 0, none⟩) 2 2, .int .i64 4, .string ⟨#[84]⟩, .string ⟨#[105]⟩, .string ⟨#[102]⟩, .string ⟨#[]⟩, .int .i64 0, .int .i64 0, .int .i64 0, .int .i64 0, .slice none 0 0] 35 (0, 0))).alloc (.cells #[.int .i64 5, .int .i64 5] 3 (0, 0))).alloc (.cells #[.int .i64 0, .int .i64 2, .int .i64 3, .string ⟨#[97]⟩, .bool false, .int .i64 0, .int .i64 3, .int .i64 2, .string ⟨#[]⟩, .bool true] 59 (0, 0))).alloc (.cells #[.int .i64 3, .bool false, .int .i64 0, .int .i64 0, .string ⟨#[]⟩, .int .i64 0, .int .i64 0, .slice none 0 0, .slice (some ⟨w1.heap.size + 1 + 1 + 1, 0, none⟩) 2 2, .slice (some ⟨w1.heap.size + 1 + 1, 0, none⟩) 2 2] 30 (0, 0))) = X
  intro hD hO hS hE hC FX
  have oD : Ow X (fun k => k = w1.heap.size) 3 eInt (.slice (some ⟨w1.heap.size, 0, none⟩) 2 2) [8, 8] := Ow.row (l := [8, 8]) (c := 2) hD rfl (by decide) (by decide) rfl rfl
  have oS : Ow X (fun k => k = w1.heap.size + 1 + 1) 3 eInt (.slice (some ⟨w1.heap.size + 1 + 1, 0, none⟩) 2 2) [5, 5] := Ow.row (l := [5, 5]) (c := 2) hS rfl (by decide) (by decide) rfl rfl
  have oE : Ow X (fun k => k = w1.heap.size + 1 + 1 + 1) 59 eEl (.slice (some ⟨w1.heap.size + 1 + 1 + 1, 0, none⟩) 2 2) [(0, 2, 3, ⟨#[97]⟩, false), (0, 3, 2, ⟨#[]⟩, true)] := Ow.row (E := eEl) (l := ([(0, 2, 3, ⟨#[97]⟩, false), (0, 3, 2, ⟨#[]⟩, true)] : List El)) (c := 2) hE rfl (by decide) (by decide) rfl rfl
  refine (may_G ⟨RdS.nil _ _, oE.rd, oS.rd⟩).mono ?_
  rintro e w2 ⟨rfl, f2⟩
  have F2 := FX.trans f2
  have C2 := f2.obj hC id
  have O2 := f2.obj hO id
  have D2 := oD.no f2
  have S2 := oS.no f2
  have E2 := oE.no f2
  clear FX hD hO hS hE hC oD oS oE f2
  go_wp2_with (refine wpList_stoC _ rfl (.tmp 67) (.tmp 65) 3 rfl C2 (vs := [.int .i64 (1 + (y : Int))]) rfl (by kernel_rfl) (by show 5 + 1 ≤ 10; omega) (by intro u hu; simp at hu; subst hu; rfl) rfl rfl #[.int .i64 3, .bool false, .int .i64 0, .int .i64 0, .string ⟨#[]⟩, .int .i64 (1 + (y : Int)), .int .i64 0, .slice none 0 0, .slice (some ⟨w1.heap.size + 1 + 1 + 1, 0, none⟩) 2 2, .slice (some ⟨w1.heap.size + 1 + 1, 0, none⟩) 2 2] rfl ?_)
  intro w3 C3 f3 z3
  have F3 := F2.then f3 fun k hk e => by have := lt_of_block C2; omega
  have O3 := f3.obj O2 (by omega)
  have D3 := D2.frm f3 fun k hk e => by omega
  have S3 := S2.frm f3 fun k hk e => by omega
  have E3 := E2.frm f3 fun k hk e => by omega
  clear F2 O2 D2 S2 E2 f3 C2
  obtain ⟨q0, q1, q2, q3, q4, q5, q6, q7, q8, q9⟩ := obj10 C3
  obtain ⟨t0, t1, t2, t3, t4, t5, t6, t7, t8, t9, t10, t11, t12, t13⟩ := obj14 O3
  have hF : ∀ x1 x2 x3, cval (fB 6 (y + 1)) x1 x2 x3 = (fun x1 x2 x3 => .agg #[.int .i64 3, .bool false, .int .i64 0, .int .i64 0, .string ⟨#[]⟩, .int .i64 (1 + (y : Int)), .int .i64 0, x1, x2, x3]) x1 x2 x3 := fun x1 x2 x3 => by
    have : ((y + 1 : Nat) : Int) = 1 + (y : Int) := by omega
    show Value.agg #[.int .i64 3, .bool false, .int .i64 0, .int .i64 0, .string ⟨#[]⟩, .int .i64 ((y + 1 : Nat) : Int), .int .i64 0, x1, x2, x3] = _
    rw [this]
  have HM := fB_may ⟨6, by omega⟩ ⟨y, by omega⟩ (by show (6 : Nat) ≠ 12; decide)
  have HZ : CellZ (fB 6 (y + 1)) := ⟨fG_z.v, fG_z.e, fG_z.l⟩
  go_wp2_with (fail)
  have R3 : CellR w3 (fB 6 (y + 1)) (.slice none 0 0) (.slice (some ⟨w1.heap.size + 1 + 1 + 1, 0, none⟩) 2 2) (.slice (some ⟨w1.heap.size + 1 + 1, 0, none⟩) 2 2) := ⟨RdS.nil _ _, E3.rd, S3.rd⟩
  have HB : CellB (fB 6 (y + 1)) := ⟨(by show 0 * 32 ≤ _; unfold reachBytes; omega), (by show 2 * 48 ≤ _; unfold reachBytes; omega), (by show 2 * 8 ≤ _; unfold reachBytes; omega)⟩
  refine (apply_no hF HM R3 HB HZ (o := ⟨(1, 9), 4, [8, 8], 4, ⟨#[84]⟩, ⟨#[105]⟩, ⟨#[102]⟩, ⟨#[]⟩, (0, 0), (0, 0), []⟩) ⟨D3.rd, RdS.nil _ _⟩ ⟨by decide, by decide, by decide, by decide⟩).mono ?_
  rintro e w4 ⟨b1, d1, b2, d2, b3, d3, rfl, r4, f4⟩
  have F4 := F3.trans f4
  have R4 := R3.no f4
  have C4 := f4.obj C3 id
  clear F3 R3 C3 O3 D3 S3 E3 f4 q0 q1 q2 q3 q4 q5 q6 q7 q8 q9 t0 t1 t2 t3 t4 t5 t6 t7 t8 t9 t10 t11 t12 t13
  have n4 := lt_of_block C4
  obtain ⟨q0, q1, q2, q3, q4, q5, q6, q7, q8, q9⟩ := obj10 C4
  go_wp2_with (fail)
  have G4 := (Frm.refl No w4).al (.cells #[.int .i64 0, .bool false, .int .i64 0, .int .i64 0, .string ⟨#[]⟩, .int .i64 0, .int .i64 0, .slice b1 0 d1, .slice b2 0 d2, .slice b3 0 d3] 30 (0, 0))
  refine (may_no hF HM (R4.no G4) HZ).mono ?_
  rintro e w5 ⟨rfl, f5⟩
  have Z5 := f5.obj (heap_alloc_new w4 (.cells #[.int .i64 0, .bool false, .int .i64 0, .int .i64 0, .string ⟨#[]⟩, .int .i64 0, .int .i64 0, .slice b1 0 d1, .slice b2 0 d2, .slice b3 0 d3] 30 (0, 0))) id
  have G5 := G4.trans f5
  have F5 := F4.trans G5
  have r5 := r4.no G5
  clear F4 R4 C4 G4 G5 f5 r4 n4 q0 q1 q2 q3 q4 q5 q6 q7 q8 q9
  have n5 := lt_of_block Z5
  obtain ⟨q0, q1, q2, q3, q4, q5, q6, q7, q8, q9⟩ := obj10 Z5
  go_wp2_with (fail)
  refine (sameCell_ok r5 (c := zeroC) (ve' := .slice none 0 0) (vl' := .slice none 0 0) (vs' := .slice none 0 0) ⟨RdS.nil _ _, RdS.nil _ _, RdS.nil _ _⟩).mono ?_
  rintro e w6 ⟨rfl, f6⟩
  go_wp2_with (go_at_call 18; refine (num_ok _ _).mono ?_; rintro e w' ⟨rfl, rfl⟩)
  go_ret
  exact ⟨rfl, F5.trans f6⟩
set_option maxHeartbeats 8000000 in
set_option maxRecDepth 100000 in
theorem forms17 {w0 : World} (tab : Tab w0) (which x : Int) (hk : (IntKind.u64.wrap which).tmod 18 = 17) :
    Calls Tryz.prog 5 #[.int .i64 which, .int .i64 x] w0 fun e w' => e = .returned (.bool true) ∧ Frm No w0 w' := by
  obtain ⟨y, hy, hy1⟩ := mask_nat 63 x _ (and_63 x)
  have HA := Lib.hid (awake_ok tab)
  clear tab
  go_enter Tryz.func5, Tryz.ntmps5
  go_wp2_with (fail)
  refine HA.out.mono ?_
  rintro e w1 ⟨rfl, F1⟩
  clear HA
  go_wp2_with (fail)
  have FX : Frm No w1 (((((w1.alloc (.cells #[.int .i64 8, .int .i64 8] 3 (0, 0))).alloc (.cells #[.int .i64 1, .int .i64 9, .int .i64 4, .slice (some ⟨w1.heap.size, 0, none⟩) 2 2, .int .i64 4, .string ⟨#[84]⟩, .string ⟨#[105]⟩, .string ⟨#[102]⟩, .string ⟨#[]⟩, .int .i64 0, .int .i64 0, .int .i64 0, .int .i64 0, .slice none 0 0] 35 (0, 0))).alloc (.cells #[.int .i64 5, .int .i64 5] 3 (0, 0))).alloc (.cells #[.int .i64 0, .int .i64 2, .int .i64 3, .string ⟨#[97]⟩, .bool false, .int .i64 0, .int .i64 3, .int .i64 2, .string ⟨#[]⟩, .bool true] 59 (0, 0))).alloc (.cells #[.int .i64 3, .bool false, .int .i64 0, .int .i64 0, .string ⟨#[]⟩, .int .i64 0, .int .i64 0, .slice none 0 0, .slice (some ⟨w1.heap.size + 1 + 1 + 1, 0, none⟩) 2 2, .slice (some ⟨w1.heap.size + 1 + 1, 0, none⟩) 2 2] 30 (0, 0))) := (((((Frm.refl No w1).al _).al _).al _).al _).al _
  have hD : (((((w1.alloc (.cells #[.int .i64 8, .int .i64 8] 3 (0, 0))).alloc (.cells #[.int .i64 1, .int .i64 9, .int .i64 4, .slice (some ⟨w1.heap.size, 0, none⟩) 2 2, .int .i64 4, .string ⟨#[84]⟩, .string ⟨#[105]⟩, .string ⟨#[102]⟩, .string ⟨#[]⟩, .int .i64 0, .int .i64 0, .int .i64 0, .int .i64 0, .slice none 0 0] 35 (0, 0))).alloc (.cells #[.int .i64 5, .int .i64 5] 3 (0, 0))).alloc (.cells #[.int .i64 0, .int .i64 2, .int .i64 3, .string ⟨#[97]⟩, .bool false, .int .i64 0, .int .i64 3, .int .i64 2, .string ⟨#[]⟩, .bool true] 59 (0, 0))).alloc (.cells #[.int .i64 3, .bool false, .int .i64 0, .int .i64 0, .string ⟨#[]⟩, .int .i64 0, .int .i64 0, .slice none 0 0, .slice (some ⟨w1.heap.size + 1 + 1 + 1, 0, none⟩) 2 2, .slice (some ⟨w1.heap.size + 1 + 1, 0, none⟩) 2 2] 30 (0, 0))).heap[w1.heap.size]? = some (.cells #[.int .i64 8, .int .i64 8] 3 (0, 0)) := al_old (al_old (al_old (al_old (heap_alloc_new w1 _))))
  have hO : (((((w1.alloc (.cells #[.int .i64 8, .int .i64 8] 3 (0, 0))).alloc (.cells #[.int .i64 1, .int .i64 9, .int .i64 4, .slice (some ⟨w1.heap.size, 0, none⟩) 2 2, .int .i64 4, .string ⟨#[84]⟩, .string ⟨#[105]⟩, .string ⟨#[102]⟩, .string ⟨#[]⟩, .int .i64 0, .int .i64 0, .int .i64 0, .int .i64 0, .slice none 0 0] 35 (0, 0))).alloc (.cells #[.int .i64 5, .int .i64 5] 3 (0, 0))).alloc (.cells #[.int .i64 0, .int .i64 2, .int .i64 3, .string ⟨#[97]⟩, .bool false, .int .i64 0, .int .i64 3, .int .i64 2, .string ⟨#[]⟩, .bool true] 59 (0, 0))).alloc (.cells #[.int .i64 3, .bool false, .int .i64 0, .int .i64 0, .string ⟨#[]⟩, .int .i64 0, .int .i64 0, .slice none 0 0, .slice (some ⟨w1.heap.size + 1 + 1 + 1, 0, none⟩) 2 2, .slice (some ⟨w1.heap.size + 1 + 1, 0, none⟩) 2 2] 30 (0, 0))).heap[w1.heap.size + 1]? = some (.cells #[.int .i64 1, .int .i64 9, .int .i64 4, .slice (some ⟨w1.heap.size, 0, none⟩) 2 2, .int .i64 4, .string ⟨#[84]⟩, .string ⟨#[105]⟩, .string ⟨#[102]⟩, .string ⟨#[]⟩, .int .i64 0, .int .i64 0, .int .i64 0, .int .i64 0, .slice none 0 0] 35 (0, 0)) := al_old (al_old (al_old (al_at (by simp))))
  have hS : (((((w1.alloc (.cells #[.int .i64 8, .int .i64 8] 3 (0, 0))).alloc (.cells #[.int .i64 1, .int .i64 9, .int .i64 4, .slice (some ⟨w1.heap.size, 0, none⟩) 2 2, .int .i64 4, .string ⟨#[84]⟩, .string ⟨#[105]⟩, .string ⟨#[102]⟩, .string ⟨#[]⟩, .int .i64 0, .int .i64 0, .int .i64 0, .int .i64 0, .slice none 0 0] 35 (0, 0))).alloc (.cells #[.int .i64 5, .int .i64 5] 3 (0, 0))).alloc (.cells #[.int .i64 0, .int .i64 2, .int .i64 3, .string ⟨#[97]⟩, .bool false, .int .i64 0, .int .i64 3, .int .i64 2, .string ⟨#[]⟩, .bool true] 59 (0, 0))).alloc (.cells #[.int .i64 3, .bool false, .int .i64 0, .int .i64 0, .string ⟨#[]⟩, .int .i64 0, .int .i64 0, .slice none 0 0, .slice (some ⟨w1.heap.size + 1 + 1 + 1, 0, none⟩) 2 2, .slice (some ⟨w1.heap.size + 1 + 1, 0, none⟩) 2 2] 30 (0, 0))).heap[w1.heap.size + 1 + 1]? = some (.cells #[.int .i64 5, .int .i64 5] 3 (0, 0)) := al_old (al_old (al_at (by simp)))
  have hE : (((((w1.alloc (.cells #[.int .i64 8, .int .i64 8] 3 (0, 0))).alloc (.cells #[.int .i64 1, .int .i64 9, .int .i64 4, .slice (some ⟨w1.heap.size, 0, none⟩) 2 2, .int .i64 4, .string ⟨#[84]⟩, .string ⟨#[105]⟩, .string ⟨#[102]⟩, .string ⟨#[]⟩, .int .i64 0, .int .i64 0, .int .i64 0, .int .i64 0, .slice none 0 0] 35 (0, 0))).alloc (.cells #[.int .i64 5, .int .i64 5] 3 (0, 0))).alloc (.cells #[.int .i64 0, .int .i64 2, .int .i64 3, .string ⟨#[97]⟩, .bool false, .int .i64 0, .int .i64 3, .int .i64 2, .string ⟨#[]⟩, .bool true] 59 (0, 0))).alloc (.cells #[.int .i64 3, .bool false, .int .i64 0, .int .i64 0, .string ⟨#[]⟩, .int .i64 0, .int .i64 0, .slice none 0 0, .slice (some ⟨w1.heap.size + 1 + 1 + 1, 0, none⟩) 2 2, .slice (some ⟨w1.heap.size + 1 + 1, 0, none⟩) 2 2] 30 (0, 0))).heap[w1.heap.size + 1 + 1 + 1]? = some (.cells #[.int .i64 0, .int .i64 2, .int .i64 3, .string ⟨#[97]⟩, .bool false, .int .i64 0, .int .i64 3, .int .i64 2, .string ⟨#[]⟩, .bool true] 59 (0, 0)) := al_old (al_at (by simp))
  have hC : (((((w1.alloc (.cells #[.int .i64 8, .int .i64 8] 3 (0, 0))).alloc (.cells #[.int .i64 1, .int .i64 9, .int .i64 4, .slice (some ⟨w1.heap.size, 0, none⟩) 2 2, .int .i64 4, .string ⟨#[84]⟩, .string ⟨#[105]⟩, .string ⟨#[102]⟩, .string ⟨#[]⟩, .int .i64 0, .int .i64 0, .int .i64 0, .int .i64 0, .slice none 0 0] 35 (0, 0))).alloc (.cells #[.int .i64 5, .int .i64 5] 3 (0, 0))).alloc (.cells #[.int .i64 0, .int .i64 2, .int .i64 3, .string ⟨#[97]⟩, .bool false, .int .i64 0, .int .i64 3, .int .i64 2, .string ⟨#[]⟩, .bool true] 59 (0, 0))).alloc (.cells #[.int .i64 3, .bool false, .int .i64 0, .int .i64 0, .string ⟨#[]⟩, .int .i64 0, .int .i64 0, .slice none 0 0, .slice (some ⟨w1.heap.size + 1 + 1 + 1, 0, none⟩) 2 2, .slice (some ⟨w1.heap.size + 1 + 1, 0, none⟩) 2 2] 30 (0, 0))).heap[w1.heap.size + 1 + 1 + 1 + 1]? = some (.cells #[.int .i64 3, .bool false, .int .i64 0, .int .i64 0, .string ⟨#[]⟩, .int .i64 0, .int .i64 0, .slice none 0 0, .slice (some ⟨w1.heap.size + 1 + 1 + 1, 0, none⟩) 2 2, .slice (some ⟨w1.heap.size + 1 + 1, 0, none⟩) 2 2] 30 (0, 0)) := al_at (by simp)
  have z1 := F1.size
  have FX := F1.trans FX
  clear F1
  revert hD hO hS hE hC FX
  generalize (((((w1.alloc (.cells #[.int .i64 8, .int .i64 8] 3 (0, 0))).alloc (.cells #[.int .i64 1, .int .i64 9, .int .i64 4, .slice (some ⟨w1.heap.size, 0, none⟩) 2 2, .int .i64 4, .string ⟨#[84]⟩, .string ⟨#[105]⟩, .string ⟨#[102]⟩, .string ⟨#[]⟩, .int .i64 0, .int .i64 0, .int .i64 0, .int .i64 0, .slice none 0 0] 35 (0, 0))).alloc (.cells #[.int .i64 5, .int .i64 5] 3 (0, 0))).alloc (.cells #[.int .i64 0, .int .i64 2, .int .i64 3, .string ⟨#[97]⟩, .bool false, .int .i64 0, .int .i64 3, .int .i64 2, .string ⟨#[]⟩, .bool true] 59 (0, 0))).alloc (.cells #[.int .i64 3, .bool false, .int .i64 0, .int .i64 0, .string ⟨#[]⟩, .int .i64 0, .int .i64 0, .slice none 0 0, .slice (some ⟨w1.heap.size + 1 + 1 + 1, 0, none⟩) 2 2, .slice (some ⟨w1.heap.size + 1 + 1, 0, none⟩) 2 2] 30 (0, 0))) = X
  intro hD hO hS hE hC FX
  have oD : Ow X (fun k => k = w1.heap.size) 3 eInt (.slice (some ⟨w1.heap.size, 0, none⟩) 2 2) [8, 8] := Ow.row (l := [8, 8]) (c := 2) hD rfl (by decide) (by decide) rfl rfl
  have oS : Ow X (fun k => k = w1.heap.size + 1 + 1) 3 eInt (.slice (some ⟨w1.heap.size + 1 + 1, 0, none⟩) 2 2) [5, 5] := Ow.row (l := [5, 5]) (c := 2) hS rfl (by decide) (by decide) rfl rfl
  have oE : Ow X (fun k => k = w1.heap.size + 1 + 1 + 1) 59 eEl (.slice (some ⟨w1.heap.size + 1 + 1 + 1, 0, none⟩) 2 2) [(0, 2, 3, ⟨#[97]⟩, false), (0, 3, 2, ⟨#[]⟩, true)] := Ow.row (E := eEl) (l := ([(0, 2, 3, ⟨#[97]⟩, false), (0, 3, 2, ⟨#[]⟩, true)] : List El)) (c := 2) hE rfl (by decide) (by decide) rfl rfl
  refine (may_G ⟨RdS.nil _ _, oE.rd, oS.rd⟩).mono ?_
  rintro e w2 ⟨rfl, f2⟩
  have F2 := FX.trans f2
  have C2 := f2.obj hC id
  have O2 := f2.obj hO id
  have D2 := oD.no f2
  have S2 := oS.no f2
  have E2 := oE.no f2
  clear FX hD hO hS hE hC oD oS oE f2
  go_wp2_with (refine wpList_stoC _ rfl (.tmp 33) (.tmp 31) 3 rfl C2 (vs := [.int .i64 (1 + (y : Int))]) rfl (by kernel_rfl) (by show 3 + 1 ≤ 10; omega) (by intro u hu; simp at hu; subst hu; rfl) rfl rfl #[.int .i64 3, .bool false, .int .i64 0, .int .i64 (1 + (y : Int)), .string ⟨#[]⟩, .int .i64 0, .int .i64 0, .slice none 0 0, .slice (some ⟨w1.heap.size + 1 + 1 + 1, 0, none⟩) 2 2, .slice (some ⟨w1.heap.size + 1 + 1, 0, none⟩) 2 2] rfl ?_)
  intro w3 C3 f3 z3
  have F3 := F2.then f3 fun k hk e => by have := lt_of_block C2; omega
  have O3 := f3.obj O2 (by omega)
  have D3 := D2.frm f3 fun k hk e => by omega
  have S3 := S2.frm f3 fun k hk e => by omega
  have E3 := E2.frm f3 fun k hk e => by omega
  clear F2 O2 D2 S2 E2 f3 C2
  obtain ⟨q0, q1, q2, q3, q4, q5, q6, q7, q8, q9⟩ := obj10 C3
  obtain ⟨t0, t1, t2, t3, t4, t5, t6, t7, t8, t9, t10, t11, t12, t13⟩ := obj14 O3
  have hF : ∀ x1 x2 x3, cval (fB 17 (y + 1)) x1 x2 x3 = (fun x1 x2 x3 => .agg #[.int .i64 3, .bool false, .int .i64 0, .int .i64 (1 + (y : Int)), .string ⟨#[]⟩, .int .i64 0, .int .i64 0, x1, x2, x3]) x1 x2 x3 := fun x1 x2 x3 => by
    have : ((y + 1 : Nat) : Int) = 1 + (y : Int) := by omega
    show Value.agg #[.int .i64 3, .bool false, .int .i64 0, .int .i64 ((y + 1 : Nat) : Int), .string ⟨#[]⟩, .int .i64 0, .int .i64 0, x1, x2, x3] = _
    rw [this]
  have HM := fB_may ⟨17, by omega⟩ ⟨y, by omega⟩ (by show (17 : Nat) ≠ 12; decide)
  have HZ : CellZ (fB 17 (y + 1)) := ⟨fG_z.v, fG_z.e, fG_z.l⟩
  go_wp2_with (fail)
  have R3 : CellR w3 (fB 17 (y + 1)) (.slice none 0 0) (.slice (some ⟨w1.heap.size + 1 + 1 + 1, 0, none⟩) 2 2) (.slice (some ⟨w1.heap.size + 1 + 1, 0, none⟩) 2 2) := ⟨RdS.nil _ _, E3.rd, S3.rd⟩
  have HB : CellB (fB 17 (y + 1)) := ⟨(by show 0 * 32 ≤ _; unfold reachBytes; omega), (by show 2 * 48 ≤ _; unfold reachBytes; omega), (by show 2 * 8 ≤ _; unfold reachBytes; omega)⟩
  refine (apply_no hF HM R3 HB HZ (o := ⟨(1, 9), 4, [8, 8], 4, ⟨#[84]⟩, ⟨#[105]⟩, ⟨#[102]⟩, ⟨#[]⟩, (0, 0), (0, 0), []⟩) ⟨D3.rd, RdS.nil _ _⟩ ⟨by decide, by decide, by decide, by decide⟩).mono ?_
  rintro e w4 ⟨b1, d1, b2, d2, b3, d3, rfl, r4, f4⟩
  have F4 := F3.trans f4
  have R4 := R3.no f4
  have C4 := f4.obj C3 id
  clear F3 R3 C3 O3 D3 S3 E3 f4 q0 q1 q2 q3 q4 q5 q6 q7 q8 q9 t0 t1 t2 t3 t4 t5 t6 t7 t8 t9 t10 t11 t12 t13
  have n4 := lt_of_block C4
  obtain ⟨q0, q1, q2, q3, q4, q5, q6, q7, q8, q9⟩ := obj10 C4
  go_wp2_with (fail)
  have G4 := (Frm.refl No w4).al (.cells #[.int .i64 0, .bool false, .int .i64 0, .int .i64 0, .string ⟨#[]⟩, .int .i64 0, .int .i64 0, .slice b1 0 d1, .slice b2 0 d2, .slice b3 0 d3] 30 (0, 0))
  refine (may_no hF HM (R4.no G4) HZ).mono ?_
  rintro e w5 ⟨rfl, f5⟩
  have Z5 := f5.obj (heap_alloc_new w4 (.cells #[.int .i64 0, .bool false, .int .i64 0, .int .i64 0, .string ⟨#[]⟩, .int .i64 0, .int .i64 0, .slice b1 0 d1, .slice b2 0 d2, .slice b3 0 d3] 30 (0, 0))) id
  have G5 := G4.trans f5
  have F5 := F4.trans G5
  have r5 := r4.no G5
  clear F4 R4 C4 G4 G5 f5 r4 n4 q0 q1 q2 q3 q4 q5 q6 q7 q8 q9
  have n5 := lt_of_block Z5
  obtain ⟨q0, q1, q2, q3, q4, q5, q6, q7, q8, q9⟩ := obj10 Z5
  go_wp2_with (fail)
  refine (sameCell_ok r5 (c := zeroC) (ve' := .slice none 0 0) (vl' := .slice none 0 0) (vs' := .slice none 0 0) ⟨RdS.nil _ _, RdS.nil _ _, RdS.nil _ _⟩).mono ?_
  rintro e w6 ⟨rfl, f6⟩
  go_wp2_with (go_at_call 18; refine (num_ok _ _).mono ?_; rintro e w' ⟨rfl, rfl⟩)
  go_ret
  exact ⟨rfl, F5.trans f6⟩
end Go.Proofs.YtofikfkgiblblaaGreatDoor

/- Merged: FormsC FormsD FormsE FormsF FormsG LForms LFormsR RowCForms. -/
import Derived.Test.YtofikfkgiblblaaGreatDoorQ26
import Derived.Test.YtofikfkgiblblaaGreatDoorZFormsA
import Derived.Test.YtofikfkgiblblaaGreatDoorZFormsB
import Derived.Test.YtofikfkgiblblaaGreatDoorZFormsH
/- tattlelaw12.CellForms: further ways. -/
namespace Go.Proofs.YtofikfkgiblblaaGreatDoor
set_option linter.unusedVariables false
set_option linter.unusedSimpArgs false
set_option linter.unusedVariables false
set_option linter.unusedSimpArgs false
open Go.RowKit Go.Lib Go.Tt Go.Shelf
set_option maxHeartbeats 8000000 in
set_option maxRecDepth 100000 in
theorem forms2 {w0 : World} (tab : Tab w0) (which x : Int) (hk : (IntKind.u64.wrap which).tmod 18 = 2) :
    Calls Tryz.prog 5 #[.int .i64 which, .int .i64 x] w0 fun e w' => e = .returned (.bool true) ∧ Frm No w0 w' := by
  obtain ⟨y, hy, hy1⟩ := mask_nat 63 x _ (and_63 x)
  have HA := Lib.hid (awake_ok tab)
  clear tab
  go_enter Tryz.func5, Tryz.ntmps5
  go_wp2_with (fail)
  refine HA.out.mono ?_
  rintro e w1 ⟨rfl, F1⟩
  clear HA
  go_wp2_with (fail)
  have FX : Frm No w1 (((((w1.alloc (.cells #[.int .i64 8, .int .i64 8] 3 (0, 0))).alloc (.cells #[.int .i64 1, .int .i64 9, .int .i64 4, .slice (some ⟨w1.heap.size, 0, none⟩) 2 2, .int .i64 4, .string ⟨#[84]⟩, .string ⟨#[105]⟩, .string ⟨#[102]⟩, .string ⟨#[]⟩, .int .i64 0, .int .i64 0, .int .i64 0, .int .i64 0, .slice none 0 0] 35 (0, 0))).alloc (.cells #[.int .i64 5, .int .i64 5] 3 (0, 0))).alloc (.cells #[.int .i64 0, .int .i64 2, .int .i64 3, .string ⟨#[97]⟩, .bool false, .int .i64 0, .int .i64 3, .int .i64 2, .string ⟨#[]⟩, .bool true] 59 (0, 0))).alloc (.cells #[.int .i64 3, .bool false, .int .i64 0, .int .i64 0, .string ⟨#[]⟩, .int .i64 0, .int .i64 0, .slice none 0 0, .slice (some ⟨w1.heap.size + 1 + 1 + 1, 0, none⟩) 2 2, .slice (some ⟨w1.heap.size + 1 + 1, 0, none⟩) 2 2] 30 (0, 0))) := (((((Frm.refl No w1).al _).al _).al _).al _).al _
  have hD : (((((w1.alloc (.cells #[.int .i64 8, .int .i64 8] 3 (0, 0))).alloc (.cells #[.int .i64 1, .int .i64 9, .int .i64 4, .slice (some ⟨w1.heap.size, 0, none⟩) 2 2, .int .i64 4, .string ⟨#[84]⟩, .string ⟨#[105]⟩, .string ⟨#[102]⟩, .string ⟨#[]⟩, .int .i64 0, .int .i64 0, .int .i64 0, .int .i64 0, .slice none 0 0] 35 (0, 0))).alloc (.cells #[.int .i64 5, .int .i64 5] 3 (0, 0))).alloc (.cells #[.int .i64 0, .int .i64 2, .int .i64 3, .string ⟨#[97]⟩, .bool false, .int .i64 0, .int .i64 3, .int .i64 2, .string ⟨#[]⟩, .bool true] 59 (0, 0))).alloc (.cells #[.int .i64 3, .bool false, .int .i64 0, .int .i64 0, .string ⟨#[]⟩, .int .i64 0, .int .i64 0, .slice none 0 0, .slice (some ⟨w1.heap.size + 1 + 1 + 1, 0, none⟩) 2 2, .slice (some ⟨w1.heap.size + 1 + 1, 0, none⟩) 2 2] 30 (0, 0))).heap[w1.heap.size]? = some (.cells #[.int .i64 8, .int .i64 8] 3 (0, 0)) := al_old (al_old (al_old (al_old (heap_alloc_new w1 _))))
  have hO : (((((w1.alloc (.cells #[.int .i64 8, .int .i64 8] 3 (0, 0))).alloc (.cells #[.int .i64 1, .int .i64 9, .int .i64 4, .slice (some ⟨w1.heap.size, 0, none⟩) 2 2, .int .i64 4, .string ⟨#[84]⟩, .string ⟨#[105]⟩, .string ⟨#[102]⟩, .string ⟨#[]⟩, .int .i64 0, .int .i64 0, .int .i64 0, .int .i64 0, .slice none 0 0] 35 (0, 0))).alloc (.cells #[.int .i64 5, .int .i64 5] 3 (0, 0))).alloc (.cells #[.int .i64 0, .int .i64 2, .int .i64 3, .string ⟨#[97]⟩, .bool false, .int .i64 0, .int .i64 3, .int .i64 2, .string ⟨#[]⟩, .bool true] 59 (0, 0))).alloc (.cells #[.int .i64 3, .bool false, .int .i64 0, .int .i64 0, .string ⟨#[]⟩, .int .i64 0, .int .i64 0, .slice none 0 0, .slice (some ⟨w1.heap.size + 1 + 1 + 1, 0, none⟩) 2 2, .slice (some ⟨w1.heap.size + 1 + 1, 0, none⟩) 2 2] 30 (0, 0))).heap[w1.heap.size + 1]? = some (.cells #[.int .i64 1, .int .i64 9, .int .i64 4, .slice (some ⟨w1.heap.size, 0, none⟩) 2 2, .int .i64 4, .string ⟨#[84]⟩, .string ⟨#[105]⟩, .string ⟨#[102]⟩, .string ⟨#[]⟩, .int .i64 0, .int .i64 0, .int .i64 0, .int .i64 0, .slice none 0 0] 35 (0, 0)) := al_old (al_old (al_old (al_at (by simp))))
  have hS : (((((w1.alloc (.cells #[.int .i64 8, .int .i64 8] 3 (0, 0))).alloc (.cells #[.int .i64 1, .int .i64 9, .int .i64 4, .slice (some ⟨w1.heap.size, 0, none⟩) 2 2, .int .i64 4, .string ⟨#[84]⟩, .string ⟨#[105]⟩, .string ⟨#[102]⟩, .string ⟨#[]⟩, .int .i64 0, .int .i64 0, .int .i64 0, .int .i64 0, .slice none 0 0] 35 (0, 0))).alloc (.cells #[.int .i64 5, .int .i64 5] 3 (0, 0))).alloc (.cells #[.int .i64 0, .int .i64 2, .int .i64 3, .string ⟨#[97]⟩, .bool false, .int .i64 0, .int .i64 3, .int .i64 2, .string ⟨#[]⟩, .bool true] 59 (0, 0))).alloc (.cells #[.int .i64 3, .bool false, .int .i64 0, .int .i64 0, .string ⟨#[]⟩, .int .i64 0, .int .i64 0, .slice none 0 0, .slice (some ⟨w1.heap.size + 1 + 1 + 1, 0, none⟩) 2 2, .slice (some ⟨w1.heap.size + 1 + 1, 0, none⟩) 2 2] 30 (0, 0))).heap[w1.heap.size + 1 + 1]? = some (.cells #[.int .i64 5, .int .i64 5] 3 (0, 0)) := al_old (al_old (al_at (by simp)))
  have hE : (((((w1.alloc (.cells #[.int .i64 8, .int .i64 8] 3 (0, 0))).alloc (.cells #[.int .i64 1, .int .i64 9, .int .i64 4, .slice (some ⟨w1.heap.size, 0, none⟩) 2 2, .int .i64 4, .string ⟨#[84]⟩, .string ⟨#[105]⟩, .string ⟨#[102]⟩, .string ⟨#[]⟩, .int .i64 0, .int .i64 0, .int .i64 0, .int .i64 0, .slice none 0 0] 35 (0, 0))).alloc (.cells #[.int .i64 5, .int .i64 5] 3 (0, 0))).alloc (.cells #[.int .i64 0, .int .i64 2, .int .i64 3, .string ⟨#[97]⟩, .bool false, .int .i64 0, .int .i64 3, .int .i64 2, .string ⟨#[]⟩, .bool true] 59 (0, 0))).alloc (.cells #[.int .i64 3, .bool false, .int .i64 0, .int .i64 0, .string ⟨#[]⟩, .int .i64 0, .int .i64 0, .slice none 0 0, .slice (some ⟨w1.heap.size + 1 + 1 + 1, 0, none⟩) 2 2, .slice (some ⟨w1.heap.size + 1 + 1, 0, none⟩) 2 2] 30 (0, 0))).heap[w1.heap.size + 1 + 1 + 1]? = some (.cells #[.int .i64 0, .int .i64 2, .int .i64 3, .string ⟨#[97]⟩, .bool false, .int .i64 0, .int .i64 3, .int .i64 2, .string ⟨#[]⟩, .bool true] 59 (0, 0)) := al_old (al_at (by simp))
  have hC : (((((w1.alloc (.cells #[.int .i64 8, .int .i64 8] 3 (0, 0))).alloc (.cells #[.int .i64 1, .int .i64 9, .int .i64 4, .slice (some ⟨w1.heap.size, 0, none⟩) 2 2, .int .i64 4, .string ⟨#[84]⟩, .string ⟨#[105]⟩, .string ⟨#[102]⟩, .string ⟨#[]⟩, .int .i64 0, .int .i64 0, .int .i64 0, .int .i64 0, .slice none 0 0] 35 (0, 0))).alloc (.cells #[.int .i64 5, .int .i64 5] 3 (0, 0))).alloc (.cells #[.int .i64 0, .int .i64 2, .int .i64 3, .string ⟨#[97]⟩, .bool false, .int .i64 0, .int .i64 3, .int .i64 2, .string ⟨#[]⟩, .bool true] 59 (0, 0))).alloc (.cells #[.int .i64 3, .bool false, .int .i64 0, .int .i64 0, .string ⟨#[]⟩, .int .i64 0, .int .i64 0, .slice none 0 0, .slice (some ⟨w1.heap.size + 1 + 1 + 1, 0, none⟩) 2 2, .slice (some ⟨w1.heap.size + 1 + 1, 0, none⟩) 2 2] 30 (0, 0))).heap[w1.heap.size + 1 + 1 + 1 + 1]? = some (.cells #[.int .i64 3, .bool false, .int .i64 0, .int .i64 0, .string ⟨#[]⟩, .int .i64 0, .int .i64 0, .slice none 0 0, .slice (some ⟨w1.heap.size + 1 + 1 + 1, 0, none⟩) 2 2, .slice (some ⟨w1.heap.size + 1 + 1, 0, none⟩) 2 2] 30 (0, 0)) := al_at (by simp)
  have z1 := F1.size
  have FX := F1.trans FX
  clear F1
  revert hD hO hS hE hC FX
  generalize (((((w1.alloc (.cells #[.int .i64 8, .int .i64 8] 3 (0, 0))).alloc (.cells #[.int .i64 1, .int .i64 9, .int .i64 4, .slice (some ⟨w1.heap.size, 0, none⟩) 2 2, .int .i64 4, .string ⟨#[84]⟩, .string ⟨#[105]⟩, .string ⟨#[102]⟩, .string ⟨#[]⟩, .int .i64 0, .int .i64 0, .int .i64 0, .int .i64 0, .slice none 0 0] 35 (0, 0))).alloc (.cells #[.int .i64 5, .int .i64 5] 3 (0, 0))).alloc (.cells #[.int .i64 0, .int .i64 2, .int .i64 3, .string ⟨#[97]⟩, .bool false, .int .i64 0, .int .i64 3, .int .i64 2, .string ⟨#[]⟩, .bool true] 59 (0, 0))).alloc (.cells #[.int .i64 3, .bool false, .int .i64 0, .int .i64 0, .string ⟨#[]⟩, .int .i64 0, .int .i64 0, .slice none 0 0, .slice (some ⟨w1.heap.size + 1 + 1 + 1, 0, none⟩) 2 2, .slice (some ⟨w1.heap.size + 1 + 1, 0, none⟩) 2 2] 30 (0, 0))) = X
  intro hD hO hS hE hC FX
  have oD : Ow X (fun k => k = w1.heap.size) 3 eInt (.slice (some ⟨w1.heap.size, 0, none⟩) 2 2) [8, 8] := Ow.row (l := [8, 8]) (c := 2) hD rfl (by decide) (by decide) rfl rfl
  have oS : Ow X (fun k => k = w1.heap.size + 1 + 1) 3 eInt (.slice (some ⟨w1.heap.size + 1 + 1, 0, none⟩) 2 2) [5, 5] := Ow.row (l := [5, 5]) (c := 2) hS rfl (by decide) (by decide) rfl rfl
  have oE : Ow X (fun k => k = w1.heap.size + 1 + 1 + 1) 59 eEl (.slice (some ⟨w1.heap.size + 1 + 1 + 1, 0, none⟩) 2 2) [(0, 2, 3, ⟨#[97]⟩, false), (0, 3, 2, ⟨#[]⟩, true)] := Ow.row (E := eEl) (l := ([(0, 2, 3, ⟨#[97]⟩, false), (0, 3, 2, ⟨#[]⟩, true)] : List El)) (c := 2) hE rfl (by decide) (by decide) rfl rfl
  refine (may_G ⟨RdS.nil _ _, oE.rd, oS.rd⟩).mono ?_
  rintro e w2 ⟨rfl, f2⟩
  have F2 := FX.trans f2
  have C2 := f2.obj hC id
  have O2 := f2.obj hO id
  have D2 := oD.no f2
  have S2 := oS.no f2
  have E2 := oE.no f2
  have HS := f2.obj hS id
  have HE := f2.obj hE id
  have z2 := lt_of_block C2
  obtain ⟨q0, q1, q2, q3, q4, q5, q6, q7, q8, q9⟩ := obj10 C2
  clear FX hD hO hS hE hC oD oS oE f2
  go_wp2_with (refine wpList_stoC _ rfl (.tmp 49) (.tmp 48) 28 rfl C2 (vs := [.slice (some ⟨w1.heap.size + 1 + 1, 0, none⟩) 1 2]) rfl (by kernel_rfl) (by show 9 + 1 ≤ 10; omega) (by intro u hu; simp at hu; subst hu; rfl) rfl rfl #[.int .i64 3, .bool false, .int .i64 0, .int .i64 0, .string ⟨#[]⟩, .int .i64 0, .int .i64 0, .slice none 0 0, .slice (some ⟨w1.heap.size + 1 + 1 + 1, 0, none⟩) 2 2, .slice (some ⟨w1.heap.size + 1 + 1, 0, none⟩) 1 2] rfl ?_)
  intro w3 C3 f3 z3
  clear q0 q1 q2 q3 q4 q5 q6 q7 q8 q9
  have F3 := F2.then f3 fun k hk e => by have := z2; omega
  have O3 := f3.obj O2 (by omega)
  have D3 := D2.frm f3 fun k hk e => by omega
  have S3 := (Ow.row (E := eInt) (F := fun k => k = w1.heap.size + 1 + 1) (l := [5]) (c := 2) HS rfl (by decide) (by decide) rfl rfl).frm f3 fun k hk e => by omega
  have E3 := E2.frm f3 fun k hk e => by omega
  clear F2 O2 D2 S2 E2 HS f3 C2 HE z2
  obtain ⟨q0, q1, q2, q3, q4, q5, q6, q7, q8, q9⟩ := obj10 C3
  obtain ⟨t0, t1, t2, t3, t4, t5, t6, t7, t8, t9, t10, t11, t12, t13⟩ := obj14 O3
  have hF : ∀ x1 x2 x3, cval (fB 2 (y + 1)) x1 x2 x3 = (fun x1 x2 x3 => .agg #[.int .i64 3, .bool false, .int .i64 0, .int .i64 0, .string ⟨#[]⟩, .int .i64 0, .int .i64 0, x1, x2, x3]) x1 x2 x3 := fun x1 x2 x3 => rfl
  have HM := fB_may ⟨2, by omega⟩ ⟨y, by omega⟩ (by show (2 : Nat) ≠ 12; decide)
  have HZ : CellZ (fB 2 (y + 1)) := ⟨fG_z.v, fG_z.e, fG_z.l⟩
  go_wp2_with (fail)
  have R3 : CellR w3 (fB 2 (y + 1)) (.slice none 0 0) (.slice (some ⟨w1.heap.size + 1 + 1 + 1, 0, none⟩) 2 2) (.slice (some ⟨w1.heap.size + 1 + 1, 0, none⟩) 1 2) := ⟨RdS.nil _ _, E3.rd, S3.rd⟩
  have HB : CellB (fB 2 (y + 1)) := ⟨(by show 0 * 32 ≤ _; unfold reachBytes; omega), (by show 2 * 48 ≤ _; unfold reachBytes; omega), (by show 1 * 8 ≤ _; unfold reachBytes; omega)⟩
  refine (apply_no hF HM R3 HB HZ (o := ⟨(1, 9), 4, [8, 8], 4, ⟨#[84]⟩, ⟨#[105]⟩, ⟨#[102]⟩, ⟨#[]⟩, (0, 0), (0, 0), []⟩) ⟨D3.rd, RdS.nil _ _⟩ ⟨by decide, by decide, by decide, by decide⟩).mono ?_
  rintro e w4 ⟨b1, d1, b2, d2, b3, d3, rfl, r4, f4⟩
  have F4 := F3.trans f4
  have R4 := R3.no f4
  have C4 := f4.obj C3 id
  clear F3 R3 C3 O3 D3 S3 E3 f4 q0 q1 q2 q3 q4 q5 q6 q7 q8 q9 t0 t1 t2 t3 t4 t5 t6 t7 t8 t9 t10 t11 t12 t13
  have n4 := lt_of_block C4
  obtain ⟨q0, q1, q2, q3, q4, q5, q6, q7, q8, q9⟩ := obj10 C4
  go_wp2_with (fail)
  have G4 := (Frm.refl No w4).al (.cells #[.int .i64 0, .bool false, .int .i64 0, .int .i64 0, .string ⟨#[]⟩, .int .i64 0, .int .i64 0, .slice b1 0 d1, .slice b2 0 d2, .slice b3 0 d3] 30 (0, 0))
  refine (may_no hF HM (R4.no G4) HZ).mono ?_
  rintro e w5 ⟨rfl, f5⟩
  have Z5 := f5.obj (heap_alloc_new w4 (.cells #[.int .i64 0, .bool false, .int .i64 0, .int .i64 0, .string ⟨#[]⟩, .int .i64 0, .int .i64 0, .slice b1 0 d1, .slice b2 0 d2, .slice b3 0 d3] 30 (0, 0))) id
  have G5 := G4.trans f5
  have F5 := F4.trans G5
  have r5 := r4.no G5
  clear F4 R4 C4 G4 G5 f5 r4 n4 q0 q1 q2 q3 q4 q5 q6 q7 q8 q9
  have n5 := lt_of_block Z5
  obtain ⟨q0, q1, q2, q3, q4, q5, q6, q7, q8, q9⟩ := obj10 Z5
  go_wp2_with (fail)
  refine (sameCell_ok r5 (c := zeroC) (ve' := .slice none 0 0) (vl' := .slice none 0 0) (vs' := .slice none 0 0) ⟨RdS.nil _ _, RdS.nil _ _, RdS.nil _ _⟩).mono ?_
  rintro e w6 ⟨rfl, f6⟩
  go_wp2_with (go_at_call 18; refine (num_ok _ _).mono ?_; rintro e w' ⟨rfl, rfl⟩)
  go_ret
  exact ⟨rfl, F5.trans f6⟩
set_option maxHeartbeats 8000000 in
set_option maxRecDepth 100000 in
theorem forms3 {w0 : World} (tab : Tab w0) (which x : Int) (hk : (IntKind.u64.wrap which).tmod 18 = 3) :
    Calls Tryz.prog 5 #[.int .i64 which, .int .i64 x] w0 fun e w' => e = .returned (.bool true) ∧ Frm No w0 w' := by
  obtain ⟨y, hy, hy1⟩ := mask_nat 63 x _ (and_63 x)
  have HA := Lib.hid (awake_ok tab)
  clear tab
  go_enter Tryz.func5, Tryz.ntmps5
  go_wp2_with (fail)
  refine HA.out.mono ?_
  rintro e w1 ⟨rfl, F1⟩
  clear HA
  go_wp2_with (fail)
  have FX : Frm No w1 (((((w1.alloc (.cells #[.int .i64 8, .int .i64 8] 3 (0, 0))).alloc (.cells #[.int .i64 1, .int .i64 9, .int .i64 4, .slice (some ⟨w1.heap.size, 0, none⟩) 2 2, .int .i64 4, .string ⟨#[84]⟩, .string ⟨#[105]⟩, .string ⟨#[102]⟩, .string ⟨#[]⟩, .int .i64 0, .int .i64 0, .int .i64 0, .int .i64 0, .slice none 0 0] 35 (0, 0))).alloc (.cells #[.int .i64 5, .int .i64 5] 3 (0, 0))).alloc (.cells #[.int .i64 0, .int .i64 2, .int .i64 3, .string ⟨#[97]⟩, .bool false, .int .i64 0, .int .i64 3, .int .i64 2, .string ⟨#[]⟩, .bool true] 59 (0, 0))).alloc (.cells #[.int .i64 3, .bool false, .int .i64 0, .int .i64 0, .string ⟨#[]⟩, .int .i64 0, .int .i64 0, .slice none 0 0, .slice (some ⟨w1.heap.size + 1 + 1 + 1, 0, none⟩) 2 2, .slice (some ⟨w1.heap.size + 1 + 1, 0, none⟩) 2 2] 30 (0, 0))) := (((((Frm.refl No w1).al _).al _).al _).al _).al _
  have hD : (((((w1.alloc (.cells #[.int .i64 8, .int .i64 8] 3 (0, 0))).alloc (.cells #[.int .i64 1, .int .i64 9, .int .i64 4, .slice (some ⟨w1.heap.size, 0, none⟩) 2 2, .int .i64 4, .string ⟨#[84]⟩, .string ⟨#[105]⟩, .string ⟨#[102]⟩, .string ⟨#[]⟩, .int .i64 0, .int .i64 0, .int .i64 0, .int .i64 0, .slice none 0 0] 35 (0, 0))).alloc (.cells #[.int .i64 5, .int .i64 5] 3 (0, 0))).alloc (.cells #[.int .i64 0, .int .i64 2, .int .i64 3, .string ⟨#[97]⟩, .bool false, .int .i64 0, .int .i64 3, .int .i64 2, .string ⟨#[]⟩, .bool true] 59 (0, 0))).alloc (.cells #[.int .i64 3, .bool false, .int .i64 0, .int .i64 0, .string ⟨#[]⟩, .int .i64 0, .int .i64 0, .slice none 0 0, .slice (some ⟨w1.heap.size + 1 + 1 + 1, 0, none⟩) 2 2, .slice (some ⟨w1.heap.size + 1 + 1, 0, none⟩) 2 2] 30 (0, 0))).heap[w1.heap.size]? = some (.cells #[.int .i64 8, .int .i64 8] 3 (0, 0)) := al_old (al_old (al_old (al_old (heap_alloc_new w1 _))))
  have hO : (((((w1.alloc (.cells #[.int .i64 8, .int .i64 8] 3 (0, 0))).alloc (.cells #[.int .i64 1, .int .i64 9, .int .i64 4, .slice (some ⟨w1.heap.size, 0, none⟩) 2 2, .int .i64 4, .string ⟨#[84]⟩, .string ⟨#[105]⟩, .string ⟨#[102]⟩, .string ⟨#[]⟩, .int .i64 0, .int .i64 0, .int .i64 0, .int .i64 0, .slice none 0 0] 35 (0, 0))).alloc (.cells #[.int .i64 5, .int .i64 5] 3 (0, 0))).alloc (.cells #[.int .i64 0, .int .i64 2, .int .i64 3, .string ⟨#[97]⟩, .bool false, .int .i64 0, .int .i64 3, .int .i64 2, .string ⟨#[]⟩, .bool true] 59 (0, 0))).alloc (.cells #[.int .i64 3, .bool false, .int .i64 0, .int .i64 0, .string ⟨#[]⟩, .int .i64 0, .int .i64 0, .slice none 0 0, .slice (some ⟨w1.heap.size + 1 + 1 + 1, 0, none⟩) 2 2, .slice (some ⟨w1.heap.size + 1 + 1, 0, none⟩) 2 2] 30 (0, 0))).heap[w1.heap.size + 1]? = some (.cells #[.int .i64 1, .int .i64 9, .int .i64 4, .slice (some ⟨w1.heap.size, 0, none⟩) 2 2, .int .i64 4, .string ⟨#[84]⟩, .string ⟨#[105]⟩, .string ⟨#[102]⟩, .string ⟨#[]⟩, .int .i64 0, .int .i64 0, .int .i64 0, .int .i64 0, .slice none 0 0] 35 (0, 0)) := al_old (al_old (al_old (al_at (by simp))))
  have hS : (((((w1.alloc (.cells #[.int .i64 8, .int .i64 8] 3 (0, 0))).alloc (.cells #[.int .i64 1, .int .i64 9, .int .i64 4, .slice (some ⟨w1.heap.size, 0, none⟩) 2 2, .int .i64 4, .string ⟨#[84]⟩, .string ⟨#[105]⟩, .string ⟨#[102]⟩, .string ⟨#[]⟩, .int .i64 0, .int .i64 0, .int .i64 0, .int .i64 0, .slice none 0 0] 35 (0, 0))).alloc (.cells #[.int .i64 5, .int .i64 5] 3 (0, 0))).alloc (.cells #[.int .i64 0, .int .i64 2, .int .i64 3, .string ⟨#[97]⟩, .bool false, .int .i64 0, .int .i64 3, .int .i64 2, .string ⟨#[]⟩, .bool true] 59 (0, 0))).alloc (.cells #[.int .i64 3, .bool false, .int .i64 0, .int .i64 0, .string ⟨#[]⟩, .int .i64 0, .int .i64 0, .slice none 0 0, .slice (some ⟨w1.heap.size + 1 + 1 + 1, 0, none⟩) 2 2, .slice (some ⟨w1.heap.size + 1 + 1, 0, none⟩) 2 2] 30 (0, 0))).heap[w1.heap.size + 1 + 1]? = some (.cells #[.int .i64 5, .int .i64 5] 3 (0, 0)) := al_old (al_old (al_at (by simp)))
  have hE : (((((w1.alloc (.cells #[.int .i64 8, .int .i64 8] 3 (0, 0))).alloc (.cells #[.int .i64 1, .int .i64 9, .int .i64 4, .slice (some ⟨w1.heap.size, 0, none⟩) 2 2, .int .i64 4, .string ⟨#[84]⟩, .string ⟨#[105]⟩, .string ⟨#[102]⟩, .string ⟨#[]⟩, .int .i64 0, .int .i64 0, .int .i64 0, .int .i64 0, .slice none 0 0] 35 (0, 0))).alloc (.cells #[.int .i64 5, .int .i64 5] 3 (0, 0))).alloc (.cells #[.int .i64 0, .int .i64 2, .int .i64 3, .string ⟨#[97]⟩, .bool false, .int .i64 0, .int .i64 3, .int .i64 2, .string ⟨#[]⟩, .bool true] 59 (0, 0))).alloc (.cells #[.int .i64 3, .bool false, .int .i64 0, .int .i64 0, .string ⟨#[]⟩, .int .i64 0, .int .i64 0, .slice none 0 0, .slice (some ⟨w1.heap.size + 1 + 1 + 1, 0, none⟩) 2 2, .slice (some ⟨w1.heap.size + 1 + 1, 0, none⟩) 2 2] 30 (0, 0))).heap[w1.heap.size + 1 + 1 + 1]? = some (.cells #[.int .i64 0, .int .i64 2, .int .i64 3, .string ⟨#[97]⟩, .bool false, .int .i64 0, .int .i64 3, .int .i64 2, .string ⟨#[]⟩, .bool true] 59 (0, 0)) := al_old (al_at (by simp))
  have hC : (((((w1.alloc (.cells #[.int .i64 8, .int .i64 8] 3 (0, 0))).alloc (.cells #[.int .i64 1, .int .i64 9, .int .i64 4, .slice (some ⟨w1.heap.size, 0, none⟩) 2 2, .int .i64 4, .string ⟨#[84]⟩, .string ⟨#[105]⟩, .string ⟨#[102]⟩, .string ⟨#[]⟩, .int .i64 0, .int .i64 0, .int .i64 0, .int .i64 0, .slice none 0 0] 35 (0, 0))).alloc (.cells #[.int .i64 5, .int .i64 5] 3 (0, 0))).alloc (.cells #[.int .i64 0, .int .i64 2, .int .i64 3, .string ⟨#[97]⟩, .bool false, .int .i64 0, .int .i64 3, .int .i64 2, .string ⟨#[]⟩, .bool true] 59 (0, 0))).alloc (.cells #[.int .i64 3, .bool false, .int .i64 0, .int .i64 0, .string ⟨#[]⟩, .int .i64 0, .int .i64 0, .slice none 0 0, .slice (some ⟨w1.heap.size + 1 + 1 + 1, 0, none⟩) 2 2, .slice (some ⟨w1.heap.size + 1 + 1, 0, none⟩) 2 2] 30 (0, 0))).heap[w1.heap.size + 1 + 1 + 1 + 1]? = some (.cells #[.int .i64 3, .bool false, .int .i64 0, .int .i64 0, .string ⟨#[]⟩, .int .i64 0, .int .i64 0, .slice none 0 0, .slice (some ⟨w1.heap.size + 1 + 1 + 1, 0, none⟩) 2 2, .slice (some ⟨w1.heap.size + 1 + 1, 0, none⟩) 2 2] 30 (0, 0)) := al_at (by simp)
  have z1 := F1.size
  have FX := F1.trans FX
  clear F1
  revert hD hO hS hE hC FX
  generalize (((((w1.alloc (.cells #[.int .i64 8, .int .i64 8] 3 (0, 0))).alloc (.cells #[.int .i64 1, .int .i64 9, .int .i64 4, .slice (some ⟨w1.heap.size, 0, none⟩) 2 2, .int .i64 4, .string ⟨#[84]⟩, .string ⟨#[105]⟩, .string ⟨#[102]⟩, .string ⟨#[]⟩, .int .i64 0, .int .i64 0, .int .i64 0, .int .i64 0, .slice none 0 0] 35 (0, 0))).alloc (.cells #[.int .i64 5, .int .i64 5] 3 (0, 0))).alloc (.cells #[.int .i64 0, .int .i64 2, .int .i64 3, .string ⟨#[97]⟩, .bool false, .int .i64 0, .int .i64 3, .int .i64 2, .string ⟨#[]⟩, .bool true] 59 (0, 0))).alloc (.cells #[.int .i64 3, .bool false, .int .i64 0, .int .i64 0, .string ⟨#[]⟩, .int .i64 0, .int .i64 0, .slice none 0 0, .slice (some ⟨w1.heap.size + 1 + 1 + 1, 0, none⟩) 2 2, .slice (some ⟨w1.heap.size + 1 + 1, 0, none⟩) 2 2] 30 (0, 0))) = X
  intro hD hO hS hE hC FX
  have oD : Ow X (fun k => k = w1.heap.size) 3 eInt (.slice (some ⟨w1.heap.size, 0, none⟩) 2 2) [8, 8] := Ow.row (l := [8, 8]) (c := 2) hD rfl (by decide) (by decide) rfl rfl
  have oS : Ow X (fun k => k = w1.heap.size + 1 + 1) 3 eInt (.slice (some ⟨w1.heap.size + 1 + 1, 0, none⟩) 2 2) [5, 5] := Ow.row (l := [5, 5]) (c := 2) hS rfl (by decide) (by decide) rfl rfl
  have oE : Ow X (fun k => k = w1.heap.size + 1 + 1 + 1) 59 eEl (.slice (some ⟨w1.heap.size + 1 + 1 + 1, 0, none⟩) 2 2) [(0, 2, 3, ⟨#[97]⟩, false), (0, 3, 2, ⟨#[]⟩, true)] := Ow.row (E := eEl) (l := ([(0, 2, 3, ⟨#[97]⟩, false), (0, 3, 2, ⟨#[]⟩, true)] : List El)) (c := 2) hE rfl (by decide) (by decide) rfl rfl
  refine (may_G ⟨RdS.nil _ _, oE.rd, oS.rd⟩).mono ?_
  rintro e w2 ⟨rfl, f2⟩
  have F2 := FX.trans f2
  have C2 := f2.obj hC id
  have O2 := f2.obj hO id
  have D2 := oD.no f2
  have S2 := oS.no f2
  have E2 := oE.no f2
  have HS := f2.obj hS id
  have HE := f2.obj hE id
  have z2 := lt_of_block C2
  obtain ⟨q0, q1, q2, q3, q4, q5, q6, q7, q8, q9⟩ := obj10 C2
  clear FX hD hO hS hE hC oD oS oE f2
  go_wp2_with (refine wpList_stoC _ rfl (.tmp 56) (.tmp 55) 3 rfl HS (vs := [.int .i64 (-(1 + (y : Int)))]) rfl (by kernel_rfl) (by show 0 + 1 ≤ 2; omega) (by intro u hu; simp at hu; subst hu; rfl) rfl rfl #[.int .i64 (-(1 + (y : Int))), .int .i64 5] rfl ?_)
  intro w3 H3 f3 z3
  clear q0 q1 q2 q3 q4 q5 q6 q7 q8 q9
  have F3 := F2.then f3 fun k hk e => by have := z2; omega
  have O3 := f3.obj O2 (by omega)
  have D3 := D2.frm f3 fun k hk e => by omega
  have C3 := f3.obj C2 (by omega)
  have S3 : Ow w3 (fun k => k = w1.heap.size + 1 + 1) 3 eInt (.slice (some ⟨w1.heap.size + 1 + 1, 0, none⟩) 2 2) [-(1 + (y : Int)), 5] := Ow.row (E := eInt) (l := [-(1 + (y : Int)), 5]) (c := 2) H3 rfl (by show 2 ≤ 2; omega) (by decide) rfl rfl
  have E3 := E2.frm f3 fun k hk e => by omega
  clear F2 O2 D2 S2 E2 HS f3 C2 HE z2 H3
  obtain ⟨q0, q1, q2, q3, q4, q5, q6, q7, q8, q9⟩ := obj10 C3
  obtain ⟨t0, t1, t2, t3, t4, t5, t6, t7, t8, t9, t10, t11, t12, t13⟩ := obj14 O3
  have hF : ∀ x1 x2 x3, cval (fB 3 (y + 1)) x1 x2 x3 = (fun x1 x2 x3 => .agg #[.int .i64 3, .bool false, .int .i64 0, .int .i64 0, .string ⟨#[]⟩, .int .i64 0, .int .i64 0, x1, x2, x3]) x1 x2 x3 := fun x1 x2 x3 => rfl
  have hs : (fB 3 (y + 1)).seen = [-(1 + (y : Int)), 5] := by
    have this : ((y + 1 : Nat) : Int) = 1 + (y : Int) := by omega
    show [-((y + 1 : Nat) : Int), 5] = _
    rw [this]
  have HM := fB_may ⟨3, by omega⟩ ⟨y, by omega⟩ (by show (3 : Nat) ≠ 12; decide)
  have HZ : CellZ (fB 3 (y + 1)) := ⟨fG_z.v, fG_z.e, fG_z.l⟩
  go_wp2_with (fail)
  have R3 : CellR w3 (fB 3 (y + 1)) (.slice none 0 0) (.slice (some ⟨w1.heap.size + 1 + 1 + 1, 0, none⟩) 2 2) (.slice (some ⟨w1.heap.size + 1 + 1, 0, none⟩) 2 2) := ⟨RdS.nil _ _, E3.rd, (by rw [hs]; exact S3.rd)⟩
  have HB : CellB (fB 3 (y + 1)) := ⟨(by show 0 * 32 ≤ _; unfold reachBytes; omega), (by show 2 * 48 ≤ _; unfold reachBytes; omega), (by show 2 * 8 ≤ _; unfold reachBytes; omega)⟩
  refine (apply_no hF HM R3 HB HZ (o := ⟨(1, 9), 4, [8, 8], 4, ⟨#[84]⟩, ⟨#[105]⟩, ⟨#[102]⟩, ⟨#[]⟩, (0, 0), (0, 0), []⟩) ⟨D3.rd, RdS.nil _ _⟩ ⟨by decide, by decide, by decide, by decide⟩).mono ?_
  rintro e w4 ⟨b1, d1, b2, d2, b3, d3, rfl, r4, f4⟩
  have F4 := F3.trans f4
  have R4 := R3.no f4
  have C4 := f4.obj C3 id
  clear F3 R3 C3 O3 D3 S3 E3 f4 q0 q1 q2 q3 q4 q5 q6 q7 q8 q9 t0 t1 t2 t3 t4 t5 t6 t7 t8 t9 t10 t11 t12 t13
  have n4 := lt_of_block C4
  obtain ⟨q0, q1, q2, q3, q4, q5, q6, q7, q8, q9⟩ := obj10 C4
  go_wp2_with (fail)
  have G4 := (Frm.refl No w4).al (.cells #[.int .i64 0, .bool false, .int .i64 0, .int .i64 0, .string ⟨#[]⟩, .int .i64 0, .int .i64 0, .slice b1 0 d1, .slice b2 0 d2, .slice b3 0 d3] 30 (0, 0))
  refine (may_no hF HM (R4.no G4) HZ).mono ?_
  rintro e w5 ⟨rfl, f5⟩
  have Z5 := f5.obj (heap_alloc_new w4 (.cells #[.int .i64 0, .bool false, .int .i64 0, .int .i64 0, .string ⟨#[]⟩, .int .i64 0, .int .i64 0, .slice b1 0 d1, .slice b2 0 d2, .slice b3 0 d3] 30 (0, 0))) id
  have G5 := G4.trans f5
  have F5 := F4.trans G5
  have r5 := r4.no G5
  clear F4 R4 C4 G4 G5 f5 r4 n4 q0 q1 q2 q3 q4 q5 q6 q7 q8 q9
  have n5 := lt_of_block Z5
  obtain ⟨q0, q1, q2, q3, q4, q5, q6, q7, q8, q9⟩ := obj10 Z5
  go_wp2_with (fail)
  refine (sameCell_ok r5 (c := zeroC) (ve' := .slice none 0 0) (vl' := .slice none 0 0) (vs' := .slice none 0 0) ⟨RdS.nil _ _, RdS.nil _ _, RdS.nil _ _⟩).mono ?_
  rintro e w6 ⟨rfl, f6⟩
  go_wp2_with (go_at_call 18; refine (num_ok _ _).mono ?_; rintro e w' ⟨rfl, rfl⟩)
  go_ret
  exact ⟨rfl, F5.trans f6⟩
end Go.Proofs.YtofikfkgiblblaaGreatDoor

/- tattlelaw12.CellForms: further ways. -/
namespace Go.Proofs.YtofikfkgiblblaaGreatDoor
set_option linter.unusedVariables false
set_option linter.unusedSimpArgs false
open Go.RowKit Go.Lib Go.Tt Go.Shelf
set_option maxHeartbeats 8000000 in
set_option maxRecDepth 100000 in
theorem forms7 {w0 : World} (tab : Tab w0) (which x : Int) (hk : (IntKind.u64.wrap which).tmod 18 = 7) :
    Calls Tryz.prog 5 #[.int .i64 which, .int .i64 x] w0 fun e w' => e = .returned (.bool true) ∧ Frm No w0 w' := by
  obtain ⟨y, hy, hy1⟩ := mask_nat 63 x _ (and_63 x)
  have HA := Lib.hid (awake_ok tab)
  clear tab
  go_enter Tryz.func5, Tryz.ntmps5
  go_wp2_with (fail)
  refine HA.out.mono ?_
  rintro e w1 ⟨rfl, F1⟩
  clear HA
  go_wp2_with (fail)
  have FX : Frm No w1 (((((w1.alloc (.cells #[.int .i64 8, .int .i64 8] 3 (0, 0))).alloc (.cells #[.int .i64 1, .int .i64 9, .int .i64 4, .slice (some ⟨w1.heap.size, 0, none⟩) 2 2, .int .i64 4, .string ⟨#[84]⟩, .string ⟨#[105]⟩, .string ⟨#[102]⟩, .string ⟨#[]⟩, .int .i64 0, .int .i64 0, .int .i64 0, .int .i64 0, .slice none 0 0] 35 (0, 0))).alloc (.cells #[.int .i64 5, .int .i64 5] 3 (0, 0))).alloc (.cells #[.int .i64 0, .int .i64 2, .int .i64 3, .string ⟨#[97]⟩, .bool false, .int .i64 0, .int .i64 3, .int .i64 2, .string ⟨#[]⟩, .bool true] 59 (0, 0))).alloc (.cells #[.int .i64 3, .bool false, .int .i64 0, .int .i64 0, .string ⟨#[]⟩, .int .i64 0, .int .i64 0, .slice none 0 0, .slice (some ⟨w1.heap.size + 1 + 1 + 1, 0, none⟩) 2 2, .slice (some ⟨w1.heap.size + 1 + 1, 0, none⟩) 2 2] 30 (0, 0))) := (((((Frm.refl No w1).al _).al _).al _).al _).al _
  have hD : (((((w1.alloc (.cells #[.int .i64 8, .int .i64 8] 3 (0, 0))).alloc (.cells #[.int .i64 1, .int .i64 9, .int .i64 4, .slice (some ⟨w1.heap.size, 0, none⟩) 2 2, .int .i64 4, .string ⟨#[84]⟩, .string ⟨#[105]⟩, .string ⟨#[102]⟩, .string ⟨#[]⟩, .int .i64 0, .int .i64 0, .int .i64 0, .int .i64 0, .slice none 0 0] 35 (0, 0))).alloc (.cells #[.int .i64 5, .int .i64 5] 3 (0, 0))).alloc (.cells #[.int .i64 0, .int .i64 2, .int .i64 3, .string ⟨#[97]⟩, .bool false, .int .i64 0, .int .i64 3, .int .i64 2, .string ⟨#[]⟩, .bool true] 59 (0, 0))).alloc (.cells #[.int .i64 3, .bool false, .int .i64 0, .int .i64 0, .string ⟨#[]⟩, .int .i64 0, .int .i64 0, .slice none 0 0, .slice (some ⟨w1.heap.size + 1 + 1 + 1, 0, none⟩) 2 2, .slice (some ⟨w1.heap.size + 1 + 1, 0, none⟩) 2 2] 30 (0, 0))).heap[w1.heap.size]? = some (.cells #[.int .i64 8, .int .i64 8] 3 (0, 0)) := al_old (al_old (al_old (al_old (heap_alloc_new w1 _))))
  have hO : (((((w1.alloc (.cells #[.int .i64 8, .int .i64 8] 3 (0, 0))).alloc (.cells #[.int .i64 1, .int .i64 9, .int .i64 4, .slice (some ⟨w1.heap.size, 0, none⟩) 2 2, .int .i64 4, .string ⟨#[84]⟩, .string ⟨#[105]⟩, .string ⟨#[102]⟩, .string ⟨#[]⟩, .int .i64 0, .int .i64 0, .int .i64 0, .int .i64 0, .slice none 0 0] 35 (0, 0))).alloc (.cells #[.int .i64 5, .int .i64 5] 3 (0, 0))).alloc (.cells #[.int .i64 0, .int .i64 2, .int .i64 3, .string ⟨#[97]⟩, .bool false, .int .i64 0, .int .i64 3, .int .i64 2, .string ⟨#[]⟩, .bool true] 59 (0, 0))).alloc (.cells #[.int .i64 3, .bool false, .int .i64 0, .int .i64 0, .string ⟨#[]⟩, .int .i64 0, .int .i64 0, .slice none 0 0, .slice (some ⟨w1.heap.size + 1 + 1 + 1, 0, none⟩) 2 2, .slice (some ⟨w1.heap.size + 1 + 1, 0, none⟩) 2 2] 30 (0, 0))).heap[w1.heap.size + 1]? = some (.cells #[.int .i64 1, .int .i64 9, .int .i64 4, .slice (some ⟨w1.heap.size, 0, none⟩) 2 2, .int .i64 4, .string ⟨#[84]⟩, .string ⟨#[105]⟩, .string ⟨#[102]⟩, .string ⟨#[]⟩, .int .i64 0, .int .i64 0, .int .i64 0, .int .i64 0, .slice none 0 0] 35 (0, 0)) := al_old (al_old (al_old (al_at (by simp))))
  have hS : (((((w1.alloc (.cells #[.int .i64 8, .int .i64 8] 3 (0, 0))).alloc (.cells #[.int .i64 1, .int .i64 9, .int .i64 4, .slice (some ⟨w1.heap.size, 0, none⟩) 2 2, .int .i64 4, .string ⟨#[84]⟩, .string ⟨#[105]⟩, .string ⟨#[102]⟩, .string ⟨#[]⟩, .int .i64 0, .int .i64 0, .int .i64 0, .int .i64 0, .slice none 0 0] 35 (0, 0))).alloc (.cells #[.int .i64 5, .int .i64 5] 3 (0, 0))).alloc (.cells #[.int .i64 0, .int .i64 2, .int .i64 3, .string ⟨#[97]⟩, .bool false, .int .i64 0, .int .i64 3, .int .i64 2, .string ⟨#[]⟩, .bool true] 59 (0, 0))).alloc (.cells #[.int .i64 3, .bool false, .int .i64 0, .int .i64 0, .string ⟨#[]⟩, .int .i64 0, .int .i64 0, .slice none 0 0, .slice (some ⟨w1.heap.size + 1 + 1 + 1, 0, none⟩) 2 2, .slice (some ⟨w1.heap.size + 1 + 1, 0, none⟩) 2 2] 30 (0, 0))).heap[w1.heap.size + 1 + 1]? = some (.cells #[.int .i64 5, .int .i64 5] 3 (0, 0)) := al_old (al_old (al_at (by simp)))
  have hE : (((((w1.alloc (.cells #[.int .i64 8, .int .i64 8] 3 (0, 0))).alloc (.cells #[.int .i64 1, .int .i64 9, .int .i64 4, .slice (some ⟨w1.heap.size, 0, none⟩) 2 2, .int .i64 4, .string ⟨#[84]⟩, .string ⟨#[105]⟩, .string ⟨#[102]⟩, .string ⟨#[]⟩, .int .i64 0, .int .i64 0, .int .i64 0, .int .i64 0, .slice none 0 0] 35 (0, 0))).alloc (.cells #[.int .i64 5, .int .i64 5] 3 (0, 0))).alloc (.cells #[.int .i64 0, .int .i64 2, .int .i64 3, .string ⟨#[97]⟩, .bool false, .int .i64 0, .int .i64 3, .int .i64 2, .string ⟨#[]⟩, .bool true] 59 (0, 0))).alloc (.cells #[.int .i64 3, .bool false, .int .i64 0, .int .i64 0, .string ⟨#[]⟩, .int .i64 0, .int .i64 0, .slice none 0 0, .slice (some ⟨w1.heap.size + 1 + 1 + 1, 0, none⟩) 2 2, .slice (some ⟨w1.heap.size + 1 + 1, 0, none⟩) 2 2] 30 (0, 0))).heap[w1.heap.size + 1 + 1 + 1]? = some (.cells #[.int .i64 0, .int .i64 2, .int .i64 3, .string ⟨#[97]⟩, .bool false, .int .i64 0, .int .i64 3, .int .i64 2, .string ⟨#[]⟩, .bool true] 59 (0, 0)) := al_old (al_at (by simp))
  have hC : (((((w1.alloc (.cells #[.int .i64 8, .int .i64 8] 3 (0, 0))).alloc (.cells #[.int .i64 1, .int .i64 9, .int .i64 4, .slice (some ⟨w1.heap.size, 0, none⟩) 2 2, .int .i64 4, .string ⟨#[84]⟩, .string ⟨#[105]⟩, .string ⟨#[102]⟩, .string ⟨#[]⟩, .int .i64 0, .int .i64 0, .int .i64 0, .int .i64 0, .slice none 0 0] 35 (0, 0))).alloc (.cells #[.int .i64 5, .int .i64 5] 3 (0, 0))).alloc (.cells #[.int .i64 0, .int .i64 2, .int .i64 3, .string ⟨#[97]⟩, .bool false, .int .i64 0, .int .i64 3, .int .i64 2, .string ⟨#[]⟩, .bool true] 59 (0, 0))).alloc (.cells #[.int .i64 3, .bool false, .int .i64 0, .int .i64 0, .string ⟨#[]⟩, .int .i64 0, .int .i64 0, .slice none 0 0, .slice (some ⟨w1.heap.size + 1 + 1 + 1, 0, none⟩) 2 2, .slice (some ⟨w1.heap.size + 1 + 1, 0, none⟩) 2 2] 30 (0, 0))).heap[w1.heap.size + 1 + 1 + 1 + 1]? = some (.cells #[.int .i64 3, .bool false, .int .i64 0, .int .i64 0, .string ⟨#[]⟩, .int .i64 0, .int .i64 0, .slice none 0 0, .slice (some ⟨w1.heap.size + 1 + 1 + 1, 0, none⟩) 2 2, .slice (some ⟨w1.heap.size + 1 + 1, 0, none⟩) 2 2] 30 (0, 0)) := al_at (by simp)
  have z1 := F1.size
  have FX := F1.trans FX
  clear F1
  revert hD hO hS hE hC FX
  generalize (((((w1.alloc (.cells #[.int .i64 8, .int .i64 8] 3 (0, 0))).alloc (.cells #[.int .i64 1, .int .i64 9, .int .i64 4, .slice (some ⟨w1.heap.size, 0, none⟩) 2 2, .int .i64 4, .string ⟨#[84]⟩, .string ⟨#[105]⟩, .string ⟨#[102]⟩, .string ⟨#[]⟩, .int .i64 0, .int .i64 0, .int .i64 0, .int .i64 0, .slice none 0 0] 35 (0, 0))).alloc (.cells #[.int .i64 5, .int .i64 5] 3 (0, 0))).alloc (.cells #[.int .i64 0, .int .i64 2, .int .i64 3, .string ⟨#[97]⟩, .bool false, .int .i64 0, .int .i64 3, .int .i64 2, .string ⟨#[]⟩, .bool true] 59 (0, 0))).alloc (.cells #[.int .i64 3, .bool false, .int .i64 0, .int .i64 0, .string ⟨#[]⟩, .int .i64 0, .int .i64 0, .slice none 0 0, .slice (some ⟨w1.heap.size + 1 + 1 + 1, 0, none⟩) 2 2, .slice (some ⟨w1.heap.size + 1 + 1, 0, none⟩) 2 2] 30 (0, 0))) = X
  intro hD hO hS hE hC FX
  have oD : Ow X (fun k => k = w1.heap.size) 3 eInt (.slice (some ⟨w1.heap.size, 0, none⟩) 2 2) [8, 8] := Ow.row (l := [8, 8]) (c := 2) hD rfl (by decide) (by decide) rfl rfl
  have oS : Ow X (fun k => k = w1.heap.size + 1 + 1) 3 eInt (.slice (some ⟨w1.heap.size + 1 + 1, 0, none⟩) 2 2) [5, 5] := Ow.row (l := [5, 5]) (c := 2) hS rfl (by decide) (by decide) rfl rfl
  have oE : Ow X (fun k => k = w1.heap.size + 1 + 1 + 1) 59 eEl (.slice (some ⟨w1.heap.size + 1 + 1 + 1, 0, none⟩) 2 2) [(0, 2, 3, ⟨#[97]⟩, false), (0, 3, 2, ⟨#[]⟩, true)] := Ow.row (E := eEl) (l := ([(0, 2, 3, ⟨#[97]⟩, false), (0, 3, 2, ⟨#[]⟩, true)] : List El)) (c := 2) hE rfl (by decide) (by decide) rfl rfl
  refine (may_G ⟨RdS.nil _ _, oE.rd, oS.rd⟩).mono ?_
  rintro e w2 ⟨rfl, f2⟩
  have F2 := FX.trans f2
  have C2 := f2.obj hC id
  have O2 := f2.obj hO id
  have D2 := oD.no f2
  have S2 := oS.no f2
  have E2 := oE.no f2
  have HS := f2.obj hS id
  have HE := f2.obj hE id
  have z2 := lt_of_block C2
  obtain ⟨q0, q1, q2, q3, q4, q5, q6, q7, q8, q9⟩ := obj10 C2
  clear FX hD hO hS hE hC oD oS oE f2
  have n2 : w1.heap.size + 1 + 1 + 1 + 1 < w2.heap.size + 1 := by omega
  go_wp2_with (refine wpList_stoC _ rfl (.tmp 73) (.tmp 72) 26 rfl (al_old C2) (vs := [.slice (some ⟨w2.heap.size, 0, none⟩) 1 1]) rfl (by kernel_rfl) (by show 7 + 1 ≤ 10; omega) (by intro u hu; simp at hu; subst hu; rfl) rfl rfl #[.int .i64 3, .bool false, .int .i64 0, .int .i64 0, .string ⟨#[]⟩, .int .i64 0, .int .i64 0, .slice (some ⟨w2.heap.size, 0, none⟩) 1 1, .slice (some ⟨w1.heap.size + 1 + 1 + 1, 0, none⟩) 2 2, .slice (some ⟨w1.heap.size + 1 + 1, 0, none⟩) 2 2] rfl ?_)
  intro w3 C3 f3 z3
  clear q0 q1 q2 q3 q4 q5 q6 q7 q8 q9
  have F3 := (F2.al (.cells #[.int .i64 0, .int .i64 1, .string ⟨#[]⟩] 62 (0, 0))).then f3 fun k hk e => by have := z2; omega
  have O3 := f3.obj (al_old O2) (by omega)
  have D3 := (D2.al (.cells #[.int .i64 0, .int .i64 1, .string ⟨#[]⟩] 62 (0, 0))).frm f3 fun k hk e => by omega
  have S3 := (S2.al (.cells #[.int .i64 0, .int .i64 1, .string ⟨#[]⟩] 62 (0, 0))).frm f3 fun k hk e => by omega
  have E3 := (E2.al (.cells #[.int .i64 0, .int .i64 1, .string ⟨#[]⟩] 62 (0, 0))).frm f3 fun k hk e => by omega
  have V3 := (Ow.row (E := eEn) (F := fun k => k = w2.heap.size) (l := [(0, 1, ⟨#[]⟩)]) (c := 1) (heap_alloc_new w2 (.cells #[.int .i64 0, .int .i64 1, .string ⟨#[]⟩] 62 (0, 0))) rfl (by decide) (by decide) rfl rfl).frm f3 fun k hk e => by omega
  clear F2 O2 D2 S2 E2 HS f3 C2 HE z2 n2
  obtain ⟨q0, q1, q2, q3, q4, q5, q6, q7, q8, q9⟩ := obj10 C3
  obtain ⟨t0, t1, t2, t3, t4, t5, t6, t7, t8, t9, t10, t11, t12, t13⟩ := obj14 O3
  have hF : ∀ x1 x2 x3, cval (fB 7 (y + 1)) x1 x2 x3 = (fun x1 x2 x3 => .agg #[.int .i64 3, .bool false, .int .i64 0, .int .i64 0, .string ⟨#[]⟩, .int .i64 0, .int .i64 0, x1, x2, x3]) x1 x2 x3 := fun x1 x2 x3 => rfl
  have HM := fB_may ⟨7, by omega⟩ ⟨y, by omega⟩ (by show (7 : Nat) ≠ 12; decide)
  have HZ : CellZ (fB 7 (y + 1)) := ⟨fG_z.v, (fun x hx => by simp only [fB, List.mem_cons, List.not_mem_nil, or_false] at hx; subst hx; show (0 : Nat) ≤ 2 ^ 63 - 1; omega), fG_z.l⟩
  go_wp2_with (fail)
  have R3 : CellR w3 (fB 7 (y + 1)) (.slice (some ⟨w2.heap.size, 0, none⟩) 1 1) (.slice (some ⟨w1.heap.size + 1 + 1 + 1, 0, none⟩) 2 2) (.slice (some ⟨w1.heap.size + 1 + 1, 0, none⟩) 2 2) := ⟨V3.rd, E3.rd, S3.rd⟩
  have HB : CellB (fB 7 (y + 1)) := ⟨(by show 1 * 32 ≤ _; unfold reachBytes; omega), (by show 2 * 48 ≤ _; unfold reachBytes; omega), (by show 2 * 8 ≤ _; unfold reachBytes; omega)⟩
  refine (apply_no hF HM R3 HB HZ (o := ⟨(1, 9), 4, [8, 8], 4, ⟨#[84]⟩, ⟨#[105]⟩, ⟨#[102]⟩, ⟨#[]⟩, (0, 0), (0, 0), []⟩) ⟨D3.rd, RdS.nil _ _⟩ ⟨by decide, by decide, by decide, by decide⟩).mono ?_
  rintro e w4 ⟨b1, d1, b2, d2, b3, d3, rfl, r4, f4⟩
  have F4 := F3.trans f4
  have R4 := R3.no f4
  have C4 := f4.obj C3 id
  clear F3 R3 C3 O3 D3 S3 E3 V3 f4 q0 q1 q2 q3 q4 q5 q6 q7 q8 q9 t0 t1 t2 t3 t4 t5 t6 t7 t8 t9 t10 t11 t12 t13
  have n4 := lt_of_block C4
  obtain ⟨q0, q1, q2, q3, q4, q5, q6, q7, q8, q9⟩ := obj10 C4
  go_wp2_with (fail)
  have G4 := (Frm.refl No w4).al (.cells #[.int .i64 0, .bool false, .int .i64 0, .int .i64 0, .string ⟨#[]⟩, .int .i64 0, .int .i64 0, .slice b1 0 d1, .slice b2 0 d2, .slice b3 0 d3] 30 (0, 0))
  refine (may_no hF HM (R4.no G4) HZ).mono ?_
  rintro e w5 ⟨rfl, f5⟩
  have Z5 := f5.obj (heap_alloc_new w4 (.cells #[.int .i64 0, .bool false, .int .i64 0, .int .i64 0, .string ⟨#[]⟩, .int .i64 0, .int .i64 0, .slice b1 0 d1, .slice b2 0 d2, .slice b3 0 d3] 30 (0, 0))) id
  have G5 := G4.trans f5
  have F5 := F4.trans G5
  have r5 := r4.no G5
  clear F4 R4 C4 G4 G5 f5 r4 n4 q0 q1 q2 q3 q4 q5 q6 q7 q8 q9
  have n5 := lt_of_block Z5
  obtain ⟨q0, q1, q2, q3, q4, q5, q6, q7, q8, q9⟩ := obj10 Z5
  go_wp2_with (fail)
  refine (sameCell_ok r5 (c := zeroC) (ve' := .slice none 0 0) (vl' := .slice none 0 0) (vs' := .slice none 0 0) ⟨RdS.nil _ _, RdS.nil _ _, RdS.nil _ _⟩).mono ?_
  rintro e w6 ⟨rfl, f6⟩
  go_wp2_with (go_at_call 18; refine (num_ok _ _).mono ?_; rintro e w' ⟨rfl, rfl⟩)
  go_ret
  exact ⟨rfl, F5.trans f6⟩
set_option maxHeartbeats 8000000 in
set_option maxRecDepth 100000 in
theorem forms13 {w0 : World} (tab : Tab w0) (which x : Int) (hk : (IntKind.u64.wrap which).tmod 18 = 13) :
    Calls Tryz.prog 5 #[.int .i64 which, .int .i64 x] w0 fun e w' => e = .returned (.bool true) ∧ Frm No w0 w' := by
  obtain ⟨y, hy, hy1⟩ := mask_nat 63 x _ (and_63 x)
  have HA := Lib.hid (awake_ok tab)
  clear tab
  go_enter Tryz.func5, Tryz.ntmps5
  go_wp2_with (fail)
  refine HA.out.mono ?_
  rintro e w1 ⟨rfl, F1⟩
  clear HA
  go_wp2_with (fail)
  have FX : Frm No w1 (((((w1.alloc (.cells #[.int .i64 8, .int .i64 8] 3 (0, 0))).alloc (.cells #[.int .i64 1, .int .i64 9, .int .i64 4, .slice (some ⟨w1.heap.size, 0, none⟩) 2 2, .int .i64 4, .string ⟨#[84]⟩, .string ⟨#[105]⟩, .string ⟨#[102]⟩, .string ⟨#[]⟩, .int .i64 0, .int .i64 0, .int .i64 0, .int .i64 0, .slice none 0 0] 35 (0, 0))).alloc (.cells #[.int .i64 5, .int .i64 5] 3 (0, 0))).alloc (.cells #[.int .i64 0, .int .i64 2, .int .i64 3, .string ⟨#[97]⟩, .bool false, .int .i64 0, .int .i64 3, .int .i64 2, .string ⟨#[]⟩, .bool true] 59 (0, 0))).alloc (.cells #[.int .i64 3, .bool false, .int .i64 0, .int .i64 0, .string ⟨#[]⟩, .int .i64 0, .int .i64 0, .slice none 0 0, .slice (some ⟨w1.heap.size + 1 + 1 + 1, 0, none⟩) 2 2, .slice (some ⟨w1.heap.size + 1 + 1, 0, none⟩) 2 2] 30 (0, 0))) := (((((Frm.refl No w1).al _).al _).al _).al _).al _
  have hD : (((((w1.alloc (.cells #[.int .i64 8, .int .i64 8] 3 (0, 0))).alloc (.cells #[.int .i64 1, .int .i64 9, .int .i64 4, .slice (some ⟨w1.heap.size, 0, none⟩) 2 2, .int .i64 4, .string ⟨#[84]⟩, .string ⟨#[105]⟩, .string ⟨#[102]⟩, .string ⟨#[]⟩, .int .i64 0, .int .i64 0, .int .i64 0, .int .i64 0, .slice none 0 0] 35 (0, 0))).alloc (.cells #[.int .i64 5, .int .i64 5] 3 (0, 0))).alloc (.cells #[.int .i64 0, .int .i64 2, .int .i64 3, .string ⟨#[97]⟩, .bool false, .int .i64 0, .int .i64 3, .int .i64 2, .string ⟨#[]⟩, .bool true] 59 (0, 0))).alloc (.cells #[.int .i64 3, .bool false, .int .i64 0, .int .i64 0, .string ⟨#[]⟩, .int .i64 0, .int .i64 0, .slice none 0 0, .slice (some ⟨w1.heap.size + 1 + 1 + 1, 0, none⟩) 2 2, .slice (some ⟨w1.heap.size + 1 + 1, 0, none⟩) 2 2] 30 (0, 0))).heap[w1.heap.size]? = some (.cells #[.int .i64 8, .int .i64 8] 3 (0, 0)) := al_old (al_old (al_old (al_old (heap_alloc_new w1 _))))
  have hO : (((((w1.alloc (.cells #[.int .i64 8, .int .i64 8] 3 (0, 0))).alloc (.cells #[.int .i64 1, .int .i64 9, .int .i64 4, .slice (some ⟨w1.heap.size, 0, none⟩) 2 2, .int .i64 4, .string ⟨#[84]⟩, .string ⟨#[105]⟩, .string ⟨#[102]⟩, .string ⟨#[]⟩, .int .i64 0, .int .i64 0, .int .i64 0, .int .i64 0, .slice none 0 0] 35 (0, 0))).alloc (.cells #[.int .i64 5, .int .i64 5] 3 (0, 0))).alloc (.cells #[.int .i64 0, .int .i64 2, .int .i64 3, .string ⟨#[97]⟩, .bool false, .int .i64 0, .int .i64 3, .int .i64 2, .string ⟨#[]⟩, .bool true] 59 (0, 0))).alloc (.cells #[.int .i64 3, .bool false, .int .i64 0, .int .i64 0, .string ⟨#[]⟩, .int .i64 0, .int .i64 0, .slice none 0 0, .slice (some ⟨w1.heap.size + 1 + 1 + 1, 0, none⟩) 2 2, .slice (some ⟨w1.heap.size + 1 + 1, 0, none⟩) 2 2] 30 (0, 0))).heap[w1.heap.size + 1]? = some (.cells #[.int .i64 1, .int .i64 9, .int .i64 4, .slice (some ⟨w1.heap.size, 0, none⟩) 2 2, .int .i64 4, .string ⟨#[84]⟩, .string ⟨#[105]⟩, .string ⟨#[102]⟩, .string ⟨#[]⟩, .int .i64 0, .int .i64 0, .int .i64 0, .int .i64 0, .slice none 0 0] 35 (0, 0)) := al_old (al_old (al_old (al_at (by simp))))
  have hS : (((((w1.alloc (.cells #[.int .i64 8, .int .i64 8] 3 (0, 0))).alloc (.cells #[.int .i64 1, .int .i64 9, .int .i64 4, .slice (some ⟨w1.heap.size, 0, none⟩) 2 2, .int .i64 4, .string ⟨#[84]⟩, .string ⟨#[105]⟩, .string ⟨#[102]⟩, .string ⟨#[]⟩, .int .i64 0, .int .i64 0, .int .i64 0, .int .i64 0, .slice none 0 0] 35 (0, 0))).alloc (.cells #[.int .i64 5, .int .i64 5] 3 (0, 0))).alloc (.cells #[.int .i64 0, .int .i64 2, .int .i64 3, .string ⟨#[97]⟩, .bool false, .int .i64 0, .int .i64 3, .int .i64 2, .string ⟨#[]⟩, .bool true] 59 (0, 0))).alloc (.cells #[.int .i64 3, .bool false, .int .i64 0, .int .i64 0, .string ⟨#[]⟩, .int .i64 0, .int .i64 0, .slice none 0 0, .slice (some ⟨w1.heap.size + 1 + 1 + 1, 0, none⟩) 2 2, .slice (some ⟨w1.heap.size + 1 + 1, 0, none⟩) 2 2] 30 (0, 0))).heap[w1.heap.size + 1 + 1]? = some (.cells #[.int .i64 5, .int .i64 5] 3 (0, 0)) := al_old (al_old (al_at (by simp)))
  have hE : (((((w1.alloc (.cells #[.int .i64 8, .int .i64 8] 3 (0, 0))).alloc (.cells #[.int .i64 1, .int .i64 9, .int .i64 4, .slice (some ⟨w1.heap.size, 0, none⟩) 2 2, .int .i64 4, .string ⟨#[84]⟩, .string ⟨#[105]⟩, .string ⟨#[102]⟩, .string ⟨#[]⟩, .int .i64 0, .int .i64 0, .int .i64 0, .int .i64 0, .slice none 0 0] 35 (0, 0))).alloc (.cells #[.int .i64 5, .int .i64 5] 3 (0, 0))).alloc (.cells #[.int .i64 0, .int .i64 2, .int .i64 3, .string ⟨#[97]⟩, .bool false, .int .i64 0, .int .i64 3, .int .i64 2, .string ⟨#[]⟩, .bool true] 59 (0, 0))).alloc (.cells #[.int .i64 3, .bool false, .int .i64 0, .int .i64 0, .string ⟨#[]⟩, .int .i64 0, .int .i64 0, .slice none 0 0, .slice (some ⟨w1.heap.size + 1 + 1 + 1, 0, none⟩) 2 2, .slice (some ⟨w1.heap.size + 1 + 1, 0, none⟩) 2 2] 30 (0, 0))).heap[w1.heap.size + 1 + 1 + 1]? = some (.cells #[.int .i64 0, .int .i64 2, .int .i64 3, .string ⟨#[97]⟩, .bool false, .int .i64 0, .int .i64 3, .int .i64 2, .string ⟨#[]⟩, .bool true] 59 (0, 0)) := al_old (al_at (by simp))
  have hC : (((((w1.alloc (.cells #[.int .i64 8, .int .i64 8] 3 (0, 0))).alloc (.cells #[.int .i64 1, .int .i64 9, .int .i64 4, .slice (some ⟨w1.heap.size, 0, none⟩) 2 2, .int .i64 4, .string ⟨#[84]⟩, .string ⟨#[105]⟩, .string ⟨#[102]⟩, .string ⟨#[]⟩, .int .i64 0, .int .i64 0, .int .i64 0, .int .i64 0, .slice none 0 0] 35 (0, 0))).alloc (.cells #[.int .i64 5, .int .i64 5] 3 (0, 0))).alloc (.cells #[.int .i64 0, .int .i64 2, .int .i64 3, .string ⟨#[97]⟩, .bool false, .int .i64 0, .int .i64 3, .int .i64 2, .string ⟨#[]⟩, .bool true] 59 (0, 0))).alloc (.cells #[.int .i64 3, .bool false, .int .i64 0, .int .i64 0, .string ⟨#[]⟩, .int .i64 0, .int .i64 0, .slice none 0 0, .slice (some ⟨w1.heap.size + 1 + 1 + 1, 0, none⟩) 2 2, .slice (some ⟨w1.heap.size + 1 + 1, 0, none⟩) 2 2] 30 (0, 0))).heap[w1.heap.size + 1 + 1 + 1 + 1]? = some (.cells #[.int .i64 3, .bool false, .int .i64 0, .int .i64 0, .string ⟨#[]⟩, .int .i64 0, .int .i64 0, .slice none 0 0, .slice (some ⟨w1.heap.size + 1 + 1 + 1, 0, none⟩) 2 2, .slice (some ⟨w1.heap.size + 1 + 1, 0, none⟩) 2 2] 30 (0, 0)) := al_at (by simp)
  have z1 := F1.size
  have FX := F1.trans FX
  clear F1
  revert hD hO hS hE hC FX
  generalize (((((w1.alloc (.cells #[.int .i64 8, .int .i64 8] 3 (0, 0))).alloc (.cells #[.int .i64 1, .int .i64 9, .int .i64 4, .slice (some ⟨w1.heap.size, 0, none⟩) 2 2, .int .i64 4, .string ⟨#[84]⟩, .string ⟨#[105]⟩, .string ⟨#[102]⟩, .string ⟨#[]⟩, .int .i64 0, .int .i64 0, .int .i64 0, .int .i64 0, .slice none 0 0] 35 (0, 0))).alloc (.cells #[.int .i64 5, .int .i64 5] 3 (0, 0))).alloc (.cells #[.int .i64 0, .int .i64 2, .int .i64 3, .string ⟨#[97]⟩, .bool false, .int .i64 0, .int .i64 3, .int .i64 2, .string ⟨#[]⟩, .bool true] 59 (0, 0))).alloc (.cells #[.int .i64 3, .bool false, .int .i64 0, .int .i64 0, .string ⟨#[]⟩, .int .i64 0, .int .i64 0, .slice none 0 0, .slice (some ⟨w1.heap.size + 1 + 1 + 1, 0, none⟩) 2 2, .slice (some ⟨w1.heap.size + 1 + 1, 0, none⟩) 2 2] 30 (0, 0))) = X
  intro hD hO hS hE hC FX
  have oD : Ow X (fun k => k = w1.heap.size) 3 eInt (.slice (some ⟨w1.heap.size, 0, none⟩) 2 2) [8, 8] := Ow.row (l := [8, 8]) (c := 2) hD rfl (by decide) (by decide) rfl rfl
  have oS : Ow X (fun k => k = w1.heap.size + 1 + 1) 3 eInt (.slice (some ⟨w1.heap.size + 1 + 1, 0, none⟩) 2 2) [5, 5] := Ow.row (l := [5, 5]) (c := 2) hS rfl (by decide) (by decide) rfl rfl
  have oE : Ow X (fun k => k = w1.heap.size + 1 + 1 + 1) 59 eEl (.slice (some ⟨w1.heap.size + 1 + 1 + 1, 0, none⟩) 2 2) [(0, 2, 3, ⟨#[97]⟩, false), (0, 3, 2, ⟨#[]⟩, true)] := Ow.row (E := eEl) (l := ([(0, 2, 3, ⟨#[97]⟩, false), (0, 3, 2, ⟨#[]⟩, true)] : List El)) (c := 2) hE rfl (by decide) (by decide) rfl rfl
  refine (may_G ⟨RdS.nil _ _, oE.rd, oS.rd⟩).mono ?_
  rintro e w2 ⟨rfl, f2⟩
  have F2 := FX.trans f2
  have C2 := f2.obj hC id
  have O2 := f2.obj hO id
  have D2 := oD.no f2
  have S2 := oS.no f2
  have E2 := oE.no f2
  have HS := f2.obj hS id
  have HE := f2.obj hE id
  have z2 := lt_of_block C2
  obtain ⟨q0, q1, q2, q3, q4, q5, q6, q7, q8, q9⟩ := obj10 C2
  clear FX hD hO hS hE hC oD oS oE f2
  clear q0 q1 q2 q3 q4 q5 q6 q7 q8 q9
  have n2 : w1.heap.size + 1 + 1 + 1 + 1 < w2.heap.size + 1 + 1 := by omega
  go_wp2_with (refine wpList_sto _ rfl (.tmp 7) (.tmp 126) 30 rfl (al_old (al_old C2)) (by kernel_rfl) (by rfl) (vs := [.int .i64 2, .bool false, .int .i64 0, .int .i64 0, .string ⟨#[]⟩, .int .i64 0, .int .i64 0, .slice (some ⟨w2.heap.size + 1, 0, none⟩) 2 2, .slice none 0 0, .slice (some ⟨w2.heap.size, 0, none⟩) 2 2]) (by intro u hu; simp only [List.mem_cons, List.not_mem_nil, or_false] at hu; rcases hu with rfl | rfl | rfl | rfl | rfl | rfl | rfl | rfl | rfl | rfl <;> rfl) rfl rfl ?_)
  intro w3 C3 f3 z3
  have F3 := ((F2.al (.cells #[.int .i64 5, .int .i64 5] 3 (0, 0))).al (.cells #[.int .i64 0, .int .i64 2, .string ⟨#[]⟩, .int .i64 0, .int .i64 1, .string ⟨#[]⟩] 62 (0, 0))).then f3 fun k hk e => by have := z2; omega
  have O3 := f3.obj (al_old (al_old O2)) (by omega)
  have D3 := ((D2.al (.cells #[.int .i64 5, .int .i64 5] 3 (0, 0))).al (.cells #[.int .i64 0, .int .i64 2, .string ⟨#[]⟩, .int .i64 0, .int .i64 1, .string ⟨#[]⟩] 62 (0, 0))).frm f3 fun k hk e => by omega
  have S3 := ((Ow.row (E := eInt) (F := fun k => k = w2.heap.size) (l := [5, 5]) (c := 2) (heap_alloc_new w2 (.cells #[.int .i64 5, .int .i64 5] 3 (0, 0))) rfl (by decide) (by decide) rfl rfl).al (.cells #[.int .i64 0, .int .i64 2, .string ⟨#[]⟩, .int .i64 0, .int .i64 1, .string ⟨#[]⟩] 62 (0, 0))).frm f3 fun k hk e => by omega
  have V3 : Ow w3 (fun k => k = w2.heap.size + 1) 62 eEn (.slice (some ⟨w2.heap.size + 1, 0, none⟩) 2 2) [(0, 2, ⟨#[]⟩), (0, 1, ⟨#[]⟩)] := (Ow.row (E := eEn) (F := fun k => k = w2.heap.size + 1) (l := [(0, 2, ⟨#[]⟩), (0, 1, ⟨#[]⟩)]) (c := 2) (w := (w2.alloc (.cells #[.int .i64 5, .int .i64 5] 3 (0, 0))).alloc (.cells #[.int .i64 0, .int .i64 2, .string ⟨#[]⟩, .int .i64 0, .int .i64 1, .string ⟨#[]⟩] 62 (0, 0))) (al_at (by simp)) rfl (by decide) (by decide) rfl rfl).frm f3 fun k hk e => by omega
  clear F2 O2 D2 S2 E2 HS f3 C2 HE z2 n2
  obtain ⟨q0, q1, q2, q3, q4, q5, q6, q7, q8, q9⟩ := obj10 C3
  obtain ⟨t0, t1, t2, t3, t4, t5, t6, t7, t8, t9, t10, t11, t12, t13⟩ := obj14 O3
  have hF : ∀ x1 x2 x3, cval (fB 13 (y + 1)) x1 x2 x3 = (fun x1 x2 x3 => .agg #[.int .i64 2, .bool false, .int .i64 0, .int .i64 0, .string ⟨#[]⟩, .int .i64 0, .int .i64 0, x1, x2, x3]) x1 x2 x3 := fun x1 x2 x3 => rfl
  have HM := fB_may ⟨13, by omega⟩ ⟨y, by omega⟩ (by show (13 : Nat) ≠ 12; decide)
  have HZ : CellZ (fB 13 (y + 1)) := ⟨fG_z.v, (fun x hx => by simp only [fB, List.mem_cons, List.not_mem_nil, or_false] at hx; rcases hx with rfl | rfl <;> (show (0 : Nat) ≤ 2 ^ 63 - 1; omega)), (fun x hx => by cases hx)⟩
  go_wp2_with (fail)
  have R3 : CellR w3 (fB 13 (y + 1)) (.slice (some ⟨w2.heap.size + 1, 0, none⟩) 2 2) (.slice none 0 0) (.slice (some ⟨w2.heap.size, 0, none⟩) 2 2) := ⟨V3.rd, RdS.nil _ _, S3.rd⟩
  have HB : CellB (fB 13 (y + 1)) := ⟨(by show 2 * 32 ≤ _; unfold reachBytes; omega), (by show 0 * 48 ≤ _; unfold reachBytes; omega), (by show 2 * 8 ≤ _; unfold reachBytes; omega)⟩
  refine (apply_no hF HM R3 HB HZ (o := ⟨(1, 9), 4, [8, 8], 4, ⟨#[84]⟩, ⟨#[105]⟩, ⟨#[102]⟩, ⟨#[]⟩, (0, 0), (0, 0), []⟩) ⟨D3.rd, RdS.nil _ _⟩ ⟨by decide, by decide, by decide, by decide⟩).mono ?_
  rintro e w4 ⟨b1, d1, b2, d2, b3, d3, rfl, r4, f4⟩
  have F4 := F3.trans f4
  have R4 := R3.no f4
  have C4 := f4.obj C3 id
  clear F3 R3 C3 O3 D3 S3 V3 f4 q0 q1 q2 q3 q4 q5 q6 q7 q8 q9 t0 t1 t2 t3 t4 t5 t6 t7 t8 t9 t10 t11 t12 t13
  have n4 := lt_of_block C4
  obtain ⟨q0, q1, q2, q3, q4, q5, q6, q7, q8, q9⟩ := obj10 C4
  go_wp2_with (fail)
  have G4 := (Frm.refl No w4).al (.cells #[.int .i64 0, .bool false, .int .i64 0, .int .i64 0, .string ⟨#[]⟩, .int .i64 0, .int .i64 0, .slice b1 0 d1, .slice b2 0 d2, .slice b3 0 d3] 30 (0, 0))
  refine (may_no hF HM (R4.no G4) HZ).mono ?_
  rintro e w5 ⟨rfl, f5⟩
  have Z5 := f5.obj (heap_alloc_new w4 (.cells #[.int .i64 0, .bool false, .int .i64 0, .int .i64 0, .string ⟨#[]⟩, .int .i64 0, .int .i64 0, .slice b1 0 d1, .slice b2 0 d2, .slice b3 0 d3] 30 (0, 0))) id
  have G5 := G4.trans f5
  have F5 := F4.trans G5
  have r5 := r4.no G5
  clear F4 R4 C4 G4 G5 f5 r4 n4 q0 q1 q2 q3 q4 q5 q6 q7 q8 q9
  have n5 := lt_of_block Z5
  obtain ⟨q0, q1, q2, q3, q4, q5, q6, q7, q8, q9⟩ := obj10 Z5
  go_wp2_with (fail)
  refine (sameCell_ok r5 (c := zeroC) (ve' := .slice none 0 0) (vl' := .slice none 0 0) (vs' := .slice none 0 0) ⟨RdS.nil _ _, RdS.nil _ _, RdS.nil _ _⟩).mono ?_
  rintro e w6 ⟨rfl, f6⟩
  go_wp2_with (go_at_call 18; refine (num_ok _ _).mono ?_; rintro e w' ⟨rfl, rfl⟩)
  go_ret
  exact ⟨rfl, F5.trans f6⟩
end Go.Proofs.YtofikfkgiblblaaGreatDoor

/- tattlelaw12.CellForms: further ways. -/
namespace Go.Proofs.YtofikfkgiblblaaGreatDoor
set_option linter.unusedVariables false
set_option linter.unusedSimpArgs false
open Go.RowKit Go.Lib Go.Tt Go.Shelf
set_option maxHeartbeats 8000000 in
set_option maxRecDepth 100000 in
theorem forms8 {w0 : World} (tab : Tab w0) (which x : Int) (hk : (IntKind.u64.wrap which).tmod 18 = 8) :
    Calls Tryz.prog 5 #[.int .i64 which, .int .i64 x] w0 fun e w' => e = .returned (.bool true) ∧ Frm No w0 w' := by
  obtain ⟨y, hy, hy1⟩ := mask_nat 63 x _ (and_63 x)
  have HA := Lib.hid (awake_ok tab)
  clear tab
  go_enter Tryz.func5, Tryz.ntmps5
  go_wp2_with (fail)
  refine HA.out.mono ?_
  rintro e w1 ⟨rfl, F1⟩
  clear HA
  go_wp2_with (fail)
  have FX : Frm No w1 (((((w1.alloc (.cells #[.int .i64 8, .int .i64 8] 3 (0, 0))).alloc (.cells #[.int .i64 1, .int .i64 9, .int .i64 4, .slice (some ⟨w1.heap.size, 0, none⟩) 2 2, .int .i64 4, .string ⟨#[84]⟩, .string ⟨#[105]⟩, .string ⟨#[102]⟩, .string ⟨#[]⟩, .int .i64 0, .int .i64 0, .int .i64 0, .int .i64 0, .slice none 0 0] 35 (0, 0))).alloc (.cells #[.int .i64 5, .int .i64 5] 3 (0, 0))).alloc (.cells #[.int .i64 0, .int .i64 2, .int .i64 3, .string ⟨#[97]⟩, .bool false, .int .i64 0, .int .i64 3, .int .i64 2, .string ⟨#[]⟩, .bool true] 59 (0, 0))).alloc (.cells #[.int .i64 3, .bool false, .int .i64 0, .int .i64 0, .string ⟨#[]⟩, .int .i64 0, .int .i64 0, .slice none 0 0, .slice (some ⟨w1.heap.size + 1 + 1 + 1, 0, none⟩) 2 2, .slice (some ⟨w1.heap.size + 1 + 1, 0, none⟩) 2 2] 30 (0, 0))) := (((((Frm.refl No w1).al _).al _).al _).al _).al _
  have hD : (((((w1.alloc (.cells #[.int .i64 8, .int .i64 8] 3 (0, 0))).alloc (.cells #[.int .i64 1, .int .i64 9, .int .i64 4, .slice (some ⟨w1.heap.size, 0, none⟩) 2 2, .int .i64 4, .string ⟨#[84]⟩, .string ⟨#[105]⟩, .string ⟨#[102]⟩, .string ⟨#[]⟩, .int .i64 0, .int .i64 0, .int .i64 0, .int .i64 0, .slice none 0 0] 35 (0, 0))).alloc (.cells #[.int .i64 5, .int .i64 5] 3 (0, 0))).alloc (.cells #[.int .i64 0, .int .i64 2, .int .i64 3, .string ⟨#[97]⟩, .bool false, .int .i64 0, .int .i64 3, .int .i64 2, .string ⟨#[]⟩, .bool true] 59 (0, 0))).alloc (.cells #[.int .i64 3, .bool false, .int .i64 0, .int .i64 0, .string ⟨#[]⟩, .int .i64 0, .int .i64 0, .slice none 0 0, .slice (some ⟨w1.heap.size + 1 + 1 + 1, 0, none⟩) 2 2, .slice (some ⟨w1.heap.size + 1 + 1, 0, none⟩) 2 2] 30 (0, 0))).heap[w1.heap.size]? = some (.cells #[.int .i64 8, .int .i64 8] 3 (0, 0)) := al_old (al_old (al_old (al_old (heap_alloc_new w1 _))))
  have hO : (((((w1.alloc (.cells #[.int .i64 8, .int .i64 8] 3 (0, 0))).alloc (.cells #[.int .i64 1, .int .i64 9, .int .i64 4, .slice (some ⟨w1.heap.size, 0, none⟩) 2 2, .int .i64 4, .string ⟨#[84]⟩, .string ⟨#[105]⟩, .string ⟨#[102]⟩, .string ⟨#[]⟩, .int .i64 0, .int .i64 0, .int .i64 0, .int .i64 0, .slice none 0 0] 35 (0, 0))).alloc (.cells #[.int .i64 5, .int .i64 5] 3 (0, 0))).alloc (.cells #[.int .i64 0, .int .i64 2, .int .i64 3, .string ⟨#[97]⟩, .bool false, .int .i64 0, .int .i64 3, .int .i64 2, .string ⟨#[]⟩, .bool true] 59 (0, 0))).alloc (.cells #[.int .i64 3, .bool false, .int .i64 0, .int .i64 0, .string ⟨#[]⟩, .int .i64 0, .int .i64 0, .slice none 0 0, .slice (some ⟨w1.heap.size + 1 + 1 + 1, 0, none⟩) 2 2, .slice (some ⟨w1.heap.size + 1 + 1, 0, none⟩) 2 2] 30 (0, 0))).heap[w1.heap.size + 1]? = some (.cells #[.int .i64 1, .int .i64 9, .int .i64 4, .slice (some ⟨w1.heap.size, 0, none⟩) 2 2, .int .i64 4, .string ⟨#[84]⟩, .string ⟨#[105]⟩, .string ⟨#[102]⟩, .string ⟨#[]⟩, .int .i64 0, .int .i64 0, .int .i64 0, .int .i64 0, .slice none 0 0] 35 (0, 0)) := al_old (al_old (al_old (al_at (by simp))))
  have hS : (((((w1.alloc (.cells #[.int .i64 8, .int .i64 8] 3 (0, 0))).alloc (.cells #[.int .i64 1, .int .i64 9, .int .i64 4, .slice (some ⟨w1.heap.size, 0, none⟩) 2 2, .int .i64 4, .string ⟨#[84]⟩, .string ⟨#[105]⟩, .string ⟨#[102]⟩, .string ⟨#[]⟩, .int .i64 0, .int .i64 0, .int .i64 0, .int .i64 0, .slice none 0 0] 35 (0, 0))).alloc (.cells #[.int .i64 5, .int .i64 5] 3 (0, 0))).alloc (.cells #[.int .i64 0, .int .i64 2, .int .i64 3, .string ⟨#[97]⟩, .bool false, .int .i64 0, .int .i64 3, .int .i64 2, .string ⟨#[]⟩, .bool true] 59 (0, 0))).alloc (.cells #[.int .i64 3, .bool false, .int .i64 0, .int .i64 0, .string ⟨#[]⟩, .int .i64 0, .int .i64 0, .slice none 0 0, .slice (some ⟨w1.heap.size + 1 + 1 + 1, 0, none⟩) 2 2, .slice (some ⟨w1.heap.size + 1 + 1, 0, none⟩) 2 2] 30 (0, 0))).heap[w1.heap.size + 1 + 1]? = some (.cells #[.int .i64 5, .int .i64 5] 3 (0, 0)) := al_old (al_old (al_at (by simp)))
  have hE : (((((w1.alloc (.cells #[.int .i64 8, .int .i64 8] 3 (0, 0))).alloc (.cells #[.int .i64 1, .int .i64 9, .int .i64 4, .slice (some ⟨w1.heap.size, 0, none⟩) 2 2, .int .i64 4, .string ⟨#[84]⟩, .string ⟨#[105]⟩, .string ⟨#[102]⟩, .string ⟨#[]⟩, .int .i64 0, .int .i64 0, .int .i64 0, .int .i64 0, .slice none 0 0] 35 (0, 0))).alloc (.cells #[.int .i64 5, .int .i64 5] 3 (0, 0))).alloc (.cells #[.int .i64 0, .int .i64 2, .int .i64 3, .string ⟨#[97]⟩, .bool false, .int .i64 0, .int .i64 3, .int .i64 2, .string ⟨#[]⟩, .bool true] 59 (0, 0))).alloc (.cells #[.int .i64 3, .bool false, .int .i64 0, .int .i64 0, .string ⟨#[]⟩, .int .i64 0, .int .i64 0, .slice none 0 0, .slice (some ⟨w1.heap.size + 1 + 1 + 1, 0, none⟩) 2 2, .slice (some ⟨w1.heap.size + 1 + 1, 0, none⟩) 2 2] 30 (0, 0))).heap[w1.heap.size + 1 + 1 + 1]? = some (.cells #[.int .i64 0, .int .i64 2, .int .i64 3, .string ⟨#[97]⟩, .bool false, .int .i64 0, .int .i64 3, .int .i64 2, .string ⟨#[]⟩, .bool true] 59 (0, 0)) := al_old (al_at (by simp))
  have hC : (((((w1.alloc (.cells #[.int .i64 8, .int .i64 8] 3 (0, 0))).alloc (.cells #[.int .i64 1, .int .i64 9, .int .i64 4, .slice (some ⟨w1.heap.size, 0, none⟩) 2 2, .int .i64 4, .string ⟨#[84]⟩, .string ⟨#[105]⟩, .string ⟨#[102]⟩, .string ⟨#[]⟩, .int .i64 0, .int .i64 0, .int .i64 0, .int .i64 0, .slice none 0 0] 35 (0, 0))).alloc (.cells #[.int .i64 5, .int .i64 5] 3 (0, 0))).alloc (.cells #[.int .i64 0, .int .i64 2, .int .i64 3, .string ⟨#[97]⟩, .bool false, .int .i64 0, .int .i64 3, .int .i64 2, .string ⟨#[]⟩, .bool true] 59 (0, 0))).alloc (.cells #[.int .i64 3, .bool false, .int .i64 0, .int .i64 0, .string ⟨#[]⟩, .int .i64 0, .int .i64 0, .slice none 0 0, .slice (some ⟨w1.heap.size + 1 + 1 + 1, 0, none⟩) 2 2, .slice (some ⟨w1.heap.size + 1 + 1, 0, none⟩) 2 2] 30 (0, 0))).heap[w1.heap.size + 1 + 1 + 1 + 1]? = some (.cells #[.int .i64 3, .bool false, .int .i64 0, .int .i64 0, .string ⟨#[]⟩, .int .i64 0, .int .i64 0, .slice none 0 0, .slice (some ⟨w1.heap.size + 1 + 1 + 1, 0, none⟩) 2 2, .slice (some ⟨w1.heap.size + 1 + 1, 0, none⟩) 2 2] 30 (0, 0)) := al_at (by simp)
  have z1 := F1.size
  have FX := F1.trans FX
  clear F1
  revert hD hO hS hE hC FX
  generalize (((((w1.alloc (.cells #[.int .i64 8, .int .i64 8] 3 (0, 0))).alloc (.cells #[.int .i64 1, .int .i64 9, .int .i64 4, .slice (some ⟨w1.heap.size, 0, none⟩) 2 2, .int .i64 4, .string ⟨#[84]⟩, .string ⟨#[105]⟩, .string ⟨#[102]⟩, .string ⟨#[]⟩, .int .i64 0, .int .i64 0, .int .i64 0, .int .i64 0, .slice none 0 0] 35 (0, 0))).alloc (.cells #[.int .i64 5, .int .i64 5] 3 (0, 0))).alloc (.cells #[.int .i64 0, .int .i64 2, .int .i64 3, .string ⟨#[97]⟩, .bool false, .int .i64 0, .int .i64 3, .int .i64 2, .string ⟨#[]⟩, .bool true] 59 (0, 0))).alloc (.cells #[.int .i64 3, .bool false, .int .i64 0, .int .i64 0, .string ⟨#[]⟩, .int .i64 0, .int .i64 0, .slice none 0 0, .slice (some ⟨w1.heap.size + 1 + 1 + 1, 0, none⟩) 2 2, .slice (some ⟨w1.heap.size + 1 + 1, 0, none⟩) 2 2] 30 (0, 0))) = X
  intro hD hO hS hE hC FX
  have oD : Ow X (fun k => k = w1.heap.size) 3 eInt (.slice (some ⟨w1.heap.size, 0, none⟩) 2 2) [8, 8] := Ow.row (l := [8, 8]) (c := 2) hD rfl (by decide) (by decide) rfl rfl
  have oS : Ow X (fun k => k = w1.heap.size + 1 + 1) 3 eInt (.slice (some ⟨w1.heap.size + 1 + 1, 0, none⟩) 2 2) [5, 5] := Ow.row (l := [5, 5]) (c := 2) hS rfl (by decide) (by decide) rfl rfl
  have oE : Ow X (fun k => k = w1.heap.size + 1 + 1 + 1) 59 eEl (.slice (some ⟨w1.heap.size + 1 + 1 + 1, 0, none⟩) 2 2) [(0, 2, 3, ⟨#[97]⟩, false), (0, 3, 2, ⟨#[]⟩, true)] := Ow.row (E := eEl) (l := ([(0, 2, 3, ⟨#[97]⟩, false), (0, 3, 2, ⟨#[]⟩, true)] : List El)) (c := 2) hE rfl (by decide) (by decide) rfl rfl
  refine (may_G ⟨RdS.nil _ _, oE.rd, oS.rd⟩).mono ?_
  rintro e w2 ⟨rfl, f2⟩
  have F2 := FX.trans f2
  have C2 := f2.obj hC id
  have O2 := f2.obj hO id
  have D2 := oD.no f2
  have S2 := oS.no f2
  have E2 := oE.no f2
  have HS := f2.obj hS id
  have HE := f2.obj hE id
  have z2 := lt_of_block C2
  obtain ⟨q0, q1, q2, q3, q4, q5, q6, q7, q8, q9⟩ := obj10 C2
  clear FX hD hO hS hE hC oD oS oE f2
  go_wp2_with (refine wpList_stoC _ rfl (.tmp 82) (.tmp 79) 3 rfl HE (vs := [.int .i64 (5 + (1 + (y : Int)))]) rfl (by kernel_rfl) (by show 1 + 1 ≤ 10; omega) (by intro u hu; simp at hu; subst hu; rfl) rfl rfl #[.int .i64 0, .int .i64 (5 + (1 + (y : Int))), .int .i64 3, .string ⟨#[97]⟩, .bool false, .int .i64 0, .int .i64 3, .int .i64 2, .string ⟨#[]⟩, .bool true] rfl ?_)
  intro w3 H3 f3 z3
  clear q0 q1 q2 q3 q4 q5 q6 q7 q8 q9 
  have F3 := F2.then f3 fun k hk e => by have := z2; omega
  have O3 := f3.obj O2 (by omega)
  have D3 := D2.frm f3 fun k hk e => by omega
  have C3 := f3.obj C2 (by omega)
  have S3 := S2.frm f3 fun k hk e => by omega
  have E3 : Ow w3 (fun k => k = w1.heap.size + 1 + 1 + 1) 59 eEl (.slice (some ⟨w1.heap.size + 1 + 1 + 1, 0, none⟩) 2 2) [(0, 5 + (1 + (y : Int)), 3, ⟨#[97]⟩, false), (0, 3, 2, ⟨#[]⟩, true)] := Ow.row (E := eEl) (l := ([(0, 5 + (1 + (y : Int)), 3, ⟨#[97]⟩, false), (0, 3, 2, ⟨#[]⟩, true)] : List El)) (c := 2) H3 rfl (by show 2 ≤ 2; omega) (by decide) rfl rfl
  clear F2 O2 D2 S2 E2 HS f3 C2 HE z2 H3
  obtain ⟨q0, q1, q2, q3, q4, q5, q6, q7, q8, q9⟩ := obj10 C3
  obtain ⟨t0, t1, t2, t3, t4, t5, t6, t7, t8, t9, t10, t11, t12, t13⟩ := obj14 O3
  have hF : ∀ x1 x2 x3, cval (fB 8 (y + 1)) x1 x2 x3 = (fun x1 x2 x3 => .agg #[.int .i64 3, .bool false, .int .i64 0, .int .i64 0, .string ⟨#[]⟩, .int .i64 0, .int .i64 0, x1, x2, x3]) x1 x2 x3 := fun x1 x2 x3 => rfl
  have hs : (fB 8 (y + 1)).elems = [(0, 5 + (1 + (y : Int)), 3, ⟨#[97]⟩, false), (0, 3, 2, ⟨#[]⟩, true)] := by
    have this : ((y + 1 : Nat) : Int) = 1 + (y : Int) := by omega
    show ([(0, 5 + ((y + 1 : Nat) : Int), 3, ⟨#[97]⟩, false), (0, 3, 2, ⟨#[]⟩, true)] : List El) = _
    rw [this]
  have HM := fB_may ⟨8, by omega⟩ ⟨y, by omega⟩ (by show (8 : Nat) ≠ 12; decide)
  have HZ : CellZ (fB 8 (y + 1)) := ⟨fG_z.v, fG_z.e, (fun x hx => by simp only [fB, fG, fL, List.mem_cons, List.not_mem_nil, or_false] at hx; rcases hx with rfl | rfl <;> first | (show (1 : Nat) ≤ 2 ^ 63 - 1; omega) | (show (0 : Nat) ≤ 2 ^ 63 - 1; omega) | (show Z.size ≤ 2 ^ 63 - 1; omega))⟩
  go_wp2_with (fail)
  have R3 : CellR w3 (fB 8 (y + 1)) (.slice none 0 0) (.slice (some ⟨w1.heap.size + 1 + 1 + 1, 0, none⟩) 2 2) (.slice (some ⟨w1.heap.size + 1 + 1, 0, none⟩) 2 2) := ⟨RdS.nil _ _, (by rw [hs]; exact E3.rd), S3.rd⟩
  have HB : CellB (fB 8 (y + 1)) := ⟨(by show 0 * 32 ≤ _; unfold reachBytes; omega), (by show 2 * 48 ≤ _; unfold reachBytes; omega), (by show 2 * 8 ≤ _; unfold reachBytes; omega)⟩
  refine (apply_no hF HM R3 HB HZ (o := ⟨(1, 9), 4, [8, 8], 4, ⟨#[84]⟩, ⟨#[105]⟩, ⟨#[102]⟩, ⟨#[]⟩, (0, 0), (0, 0), []⟩) ⟨D3.rd, RdS.nil _ _⟩ ⟨by decide, by decide, by decide, by decide⟩).mono ?_
  rintro e w4 ⟨b1, d1, b2, d2, b3, d3, rfl, r4, f4⟩
  have F4 := F3.trans f4
  have R4 := R3.no f4
  have C4 := f4.obj C3 id
  clear F3 R3 C3 O3 D3 S3 E3 f4 q0 q1 q2 q3 q4 q5 q6 q7 q8 q9 t0 t1 t2 t3 t4 t5 t6 t7 t8 t9 t10 t11 t12 t13
  have n4 := lt_of_block C4
  obtain ⟨q0, q1, q2, q3, q4, q5, q6, q7, q8, q9⟩ := obj10 C4
  go_wp2_with (fail)
  have G4 := (Frm.refl No w4).al (.cells #[.int .i64 0, .bool false, .int .i64 0, .int .i64 0, .string ⟨#[]⟩, .int .i64 0, .int .i64 0, .slice b1 0 d1, .slice b2 0 d2, .slice b3 0 d3] 30 (0, 0))
  refine (may_no hF HM (R4.no G4) HZ).mono ?_
  rintro e w5 ⟨rfl, f5⟩
  have Z5 := f5.obj (heap_alloc_new w4 (.cells #[.int .i64 0, .bool false, .int .i64 0, .int .i64 0, .string ⟨#[]⟩, .int .i64 0, .int .i64 0, .slice b1 0 d1, .slice b2 0 d2, .slice b3 0 d3] 30 (0, 0))) id
  have G5 := G4.trans f5
  have F5 := F4.trans G5
  have r5 := r4.no G5
  clear F4 R4 C4 G4 G5 f5 r4 n4 q0 q1 q2 q3 q4 q5 q6 q7 q8 q9
  have n5 := lt_of_block Z5
  obtain ⟨q0, q1, q2, q3, q4, q5, q6, q7, q8, q9⟩ := obj10 Z5
  go_wp2_with (fail)
  refine (sameCell_ok r5 (c := zeroC) (ve' := .slice none 0 0) (vl' := .slice none 0 0) (vs' := .slice none 0 0) ⟨RdS.nil _ _, RdS.nil _ _, RdS.nil _ _⟩).mono ?_
  rintro e w6 ⟨rfl, f6⟩
  go_wp2_with (go_at_call 18; refine (num_ok _ _).mono ?_; rintro e w' ⟨rfl, rfl⟩)
  go_ret
  exact ⟨rfl, F5.trans f6⟩
set_option maxHeartbeats 8000000 in
set_option maxRecDepth 100000 in
theorem forms9 {w0 : World} (tab : Tab w0) (which x : Int) (hk : (IntKind.u64.wrap which).tmod 18 = 9) :
    Calls Tryz.prog 5 #[.int .i64 which, .int .i64 x] w0 fun e w' => e = .returned (.bool true) ∧ Frm No w0 w' := by
  obtain ⟨y, hy, hy1⟩ := mask_nat 63 x _ (and_63 x)
  have HA := Lib.hid (awake_ok tab)
  clear tab
  go_enter Tryz.func5, Tryz.ntmps5
  go_wp2_with (fail)
  refine HA.out.mono ?_
  rintro e w1 ⟨rfl, F1⟩
  clear HA
  go_wp2_with (fail)
  have FX : Frm No w1 (((((w1.alloc (.cells #[.int .i64 8, .int .i64 8] 3 (0, 0))).alloc (.cells #[.int .i64 1, .int .i64 9, .int .i64 4, .slice (some ⟨w1.heap.size, 0, none⟩) 2 2, .int .i64 4, .string ⟨#[84]⟩, .string ⟨#[105]⟩, .string ⟨#[102]⟩, .string ⟨#[]⟩, .int .i64 0, .int .i64 0, .int .i64 0, .int .i64 0, .slice none 0 0] 35 (0, 0))).alloc (.cells #[.int .i64 5, .int .i64 5] 3 (0, 0))).alloc (.cells #[.int .i64 0, .int .i64 2, .int .i64 3, .string ⟨#[97]⟩, .bool false, .int .i64 0, .int .i64 3, .int .i64 2, .string ⟨#[]⟩, .bool true] 59 (0, 0))).alloc (.cells #[.int .i64 3, .bool false, .int .i64 0, .int .i64 0, .string ⟨#[]⟩, .int .i64 0, .int .i64 0, .slice none 0 0, .slice (some ⟨w1.heap.size + 1 + 1 + 1, 0, none⟩) 2 2, .slice (some ⟨w1.heap.size + 1 + 1, 0, none⟩) 2 2] 30 (0, 0))) := (((((Frm.refl No w1).al _).al _).al _).al _).al _
  have hD : (((((w1.alloc (.cells #[.int .i64 8, .int .i64 8] 3 (0, 0))).alloc (.cells #[.int .i64 1, .int .i64 9, .int .i64 4, .slice (some ⟨w1.heap.size, 0, none⟩) 2 2, .int .i64 4, .string ⟨#[84]⟩, .string ⟨#[105]⟩, .string ⟨#[102]⟩, .string ⟨#[]⟩, .int .i64 0, .int .i64 0, .int .i64 0, .int .i64 0, .slice none 0 0] 35 (0, 0))).alloc (.cells #[.int .i64 5, .int .i64 5] 3 (0, 0))).alloc (.cells #[.int .i64 0, .int .i64 2, .int .i64 3, .string ⟨#[97]⟩, .bool false, .int .i64 0, .int .i64 3, .int .i64 2, .string ⟨#[]⟩, .bool true] 59 (0, 0))).alloc (.cells #[.int .i64 3, .bool false, .int .i64 0, .int .i64 0, .string ⟨#[]⟩, .int .i64 0, .int .i64 0, .slice none 0 0, .slice (some ⟨w1.heap.size + 1 + 1 + 1, 0, none⟩) 2 2, .slice (some ⟨w1.heap.size + 1 + 1, 0, none⟩) 2 2] 30 (0, 0))).heap[w1.heap.size]? = some (.cells #[.int .i64 8, .int .i64 8] 3 (0, 0)) := al_old (al_old (al_old (al_old (heap_alloc_new w1 _))))
  have hO : (((((w1.alloc (.cells #[.int .i64 8, .int .i64 8] 3 (0, 0))).alloc (.cells #[.int .i64 1, .int .i64 9, .int .i64 4, .slice (some ⟨w1.heap.size, 0, none⟩) 2 2, .int .i64 4, .string ⟨#[84]⟩, .string ⟨#[105]⟩, .string ⟨#[102]⟩, .string ⟨#[]⟩, .int .i64 0, .int .i64 0, .int .i64 0, .int .i64 0, .slice none 0 0] 35 (0, 0))).alloc (.cells #[.int .i64 5, .int .i64 5] 3 (0, 0))).alloc (.cells #[.int .i64 0, .int .i64 2, .int .i64 3, .string ⟨#[97]⟩, .bool false, .int .i64 0, .int .i64 3, .int .i64 2, .string ⟨#[]⟩, .bool true] 59 (0, 0))).alloc (.cells #[.int .i64 3, .bool false, .int .i64 0, .int .i64 0, .string ⟨#[]⟩, .int .i64 0, .int .i64 0, .slice none 0 0, .slice (some ⟨w1.heap.size + 1 + 1 + 1, 0, none⟩) 2 2, .slice (some ⟨w1.heap.size + 1 + 1, 0, none⟩) 2 2] 30 (0, 0))).heap[w1.heap.size + 1]? = some (.cells #[.int .i64 1, .int .i64 9, .int .i64 4, .slice (some ⟨w1.heap.size, 0, none⟩) 2 2, .int .i64 4, .string ⟨#[84]⟩, .string ⟨#[105]⟩, .string ⟨#[102]⟩, .string ⟨#[]⟩, .int .i64 0, .int .i64 0, .int .i64 0, .int .i64 0, .slice none 0 0] 35 (0, 0)) := al_old (al_old (al_old (al_at (by simp))))
  have hS : (((((w1.alloc (.cells #[.int .i64 8, .int .i64 8] 3 (0, 0))).alloc (.cells #[.int .i64 1, .int .i64 9, .int .i64 4, .slice (some ⟨w1.heap.size, 0, none⟩) 2 2, .int .i64 4, .string ⟨#[84]⟩, .string ⟨#[105]⟩, .string ⟨#[102]⟩, .string ⟨#[]⟩, .int .i64 0, .int .i64 0, .int .i64 0, .int .i64 0, .slice none 0 0] 35 (0, 0))).alloc (.cells #[.int .i64 5, .int .i64 5] 3 (0, 0))).alloc (.cells #[.int .i64 0, .int .i64 2, .int .i64 3, .string ⟨#[97]⟩, .bool false, .int .i64 0, .int .i64 3, .int .i64 2, .string ⟨#[]⟩, .bool true] 59 (0, 0))).alloc (.cells #[.int .i64 3, .bool false, .int .i64 0, .int .i64 0, .string ⟨#[]⟩, .int .i64 0, .int .i64 0, .slice none 0 0, .slice (some ⟨w1.heap.size + 1 + 1 + 1, 0, none⟩) 2 2, .slice (some ⟨w1.heap.size + 1 + 1, 0, none⟩) 2 2] 30 (0, 0))).heap[w1.heap.size + 1 + 1]? = some (.cells #[.int .i64 5, .int .i64 5] 3 (0, 0)) := al_old (al_old (al_at (by simp)))
  have hE : (((((w1.alloc (.cells #[.int .i64 8, .int .i64 8] 3 (0, 0))).alloc (.cells #[.int .i64 1, .int .i64 9, .int .i64 4, .slice (some ⟨w1.heap.size, 0, none⟩) 2 2, .int .i64 4, .string ⟨#[84]⟩, .string ⟨#[105]⟩, .string ⟨#[102]⟩, .string ⟨#[]⟩, .int .i64 0, .int .i64 0, .int .i64 0, .int .i64 0, .slice none 0 0] 35 (0, 0))).alloc (.cells #[.int .i64 5, .int .i64 5] 3 (0, 0))).alloc (.cells #[.int .i64 0, .int .i64 2, .int .i64 3, .string ⟨#[97]⟩, .bool false, .int .i64 0, .int .i64 3, .int .i64 2, .string ⟨#[]⟩, .bool true] 59 (0, 0))).alloc (.cells #[.int .i64 3, .bool false, .int .i64 0, .int .i64 0, .string ⟨#[]⟩, .int .i64 0, .int .i64 0, .slice none 0 0, .slice (some ⟨w1.heap.size + 1 + 1 + 1, 0, none⟩) 2 2, .slice (some ⟨w1.heap.size + 1 + 1, 0, none⟩) 2 2] 30 (0, 0))).heap[w1.heap.size + 1 + 1 + 1]? = some (.cells #[.int .i64 0, .int .i64 2, .int .i64 3, .string ⟨#[97]⟩, .bool false, .int .i64 0, .int .i64 3, .int .i64 2, .string ⟨#[]⟩, .bool true] 59 (0, 0)) := al_old (al_at (by simp))
  have hC : (((((w1.alloc (.cells #[.int .i64 8, .int .i64 8] 3 (0, 0))).alloc (.cells #[.int .i64 1, .int .i64 9, .int .i64 4, .slice (some ⟨w1.heap.size, 0, none⟩) 2 2, .int .i64 4, .string ⟨#[84]⟩, .string ⟨#[105]⟩, .string ⟨#[102]⟩, .string ⟨#[]⟩, .int .i64 0, .int .i64 0, .int .i64 0, .int .i64 0, .slice none 0 0] 35 (0, 0))).alloc (.cells #[.int .i64 5, .int .i64 5] 3 (0, 0))).alloc (.cells #[.int .i64 0, .int .i64 2, .int .i64 3, .string ⟨#[97]⟩, .bool false, .int .i64 0, .int .i64 3, .int .i64 2, .string ⟨#[]⟩, .bool true] 59 (0, 0))).alloc (.cells #[.int .i64 3, .bool false, .int .i64 0, .int .i64 0, .string ⟨#[]⟩, .int .i64 0, .int .i64 0, .slice none 0 0, .slice (some ⟨w1.heap.size + 1 + 1 + 1, 0, none⟩) 2 2, .slice (some ⟨w1.heap.size + 1 + 1, 0, none⟩) 2 2] 30 (0, 0))).heap[w1.heap.size + 1 + 1 + 1 + 1]? = some (.cells #[.int .i64 3, .bool false, .int .i64 0, .int .i64 0, .string ⟨#[]⟩, .int .i64 0, .int .i64 0, .slice none 0 0, .slice (some ⟨w1.heap.size + 1 + 1 + 1, 0, none⟩) 2 2, .slice (some ⟨w1.heap.size + 1 + 1, 0, none⟩) 2 2] 30 (0, 0)) := al_at (by simp)
  have z1 := F1.size
  have FX := F1.trans FX
  clear F1
  revert hD hO hS hE hC FX
  generalize (((((w1.alloc (.cells #[.int .i64 8, .int .i64 8] 3 (0, 0))).alloc (.cells #[.int .i64 1, .int .i64 9, .int .i64 4, .slice (some ⟨w1.heap.size, 0, none⟩) 2 2, .int .i64 4, .string ⟨#[84]⟩, .string ⟨#[105]⟩, .string ⟨#[102]⟩, .string ⟨#[]⟩, .int .i64 0, .int .i64 0, .int .i64 0, .int .i64 0, .slice none 0 0] 35 (0, 0))).alloc (.cells #[.int .i64 5, .int .i64 5] 3 (0, 0))).alloc (.cells #[.int .i64 0, .int .i64 2, .int .i64 3, .string ⟨#[97]⟩, .bool false, .int .i64 0, .int .i64 3, .int .i64 2, .string ⟨#[]⟩, .bool true] 59 (0, 0))).alloc (.cells #[.int .i64 3, .bool false, .int .i64 0, .int .i64 0, .string ⟨#[]⟩, .int .i64 0, .int .i64 0, .slice none 0 0, .slice (some ⟨w1.heap.size + 1 + 1 + 1, 0, none⟩) 2 2, .slice (some ⟨w1.heap.size + 1 + 1, 0, none⟩) 2 2] 30 (0, 0))) = X
  intro hD hO hS hE hC FX
  have oD : Ow X (fun k => k = w1.heap.size) 3 eInt (.slice (some ⟨w1.heap.size, 0, none⟩) 2 2) [8, 8] := Ow.row (l := [8, 8]) (c := 2) hD rfl (by decide) (by decide) rfl rfl
  have oS : Ow X (fun k => k = w1.heap.size + 1 + 1) 3 eInt (.slice (some ⟨w1.heap.size + 1 + 1, 0, none⟩) 2 2) [5, 5] := Ow.row (l := [5, 5]) (c := 2) hS rfl (by decide) (by decide) rfl rfl
  have oE : Ow X (fun k => k = w1.heap.size + 1 + 1 + 1) 59 eEl (.slice (some ⟨w1.heap.size + 1 + 1 + 1, 0, none⟩) 2 2) [(0, 2, 3, ⟨#[97]⟩, false), (0, 3, 2, ⟨#[]⟩, true)] := Ow.row (E := eEl) (l := ([(0, 2, 3, ⟨#[97]⟩, false), (0, 3, 2, ⟨#[]⟩, true)] : List El)) (c := 2) hE rfl (by decide) (by decide) rfl rfl
  refine (may_G ⟨RdS.nil _ _, oE.rd, oS.rd⟩).mono ?_
  rintro e w2 ⟨rfl, f2⟩
  have F2 := FX.trans f2
  have C2 := f2.obj hC id
  have O2 := f2.obj hO id
  have D2 := oD.no f2
  have S2 := oS.no f2
  have E2 := oE.no f2
  have HS := f2.obj hS id
  have HE := f2.obj hE id
  have z2 := lt_of_block C2
  obtain ⟨q0, q1, q2, q3, q4, q5, q6, q7, q8, q9⟩ := obj10 C2
  clear FX hD hO hS hE hC oD oS oE f2
  obtain ⟨p0, p1, p2, p3, p4, p5, p6, p7, p8, p9⟩ := obj10 HE
  go_wp2
  refine wp_region_plan [([0, 1, 2, 3, 4, 5, 6, 7, 8, 9], [])] 169 (by kernel_rfl) (by kernel_rfl) (by simp) ?_
  intro N hN
  simp only [wpSegs, List.map_cons, List.map_nil, List.getD_cons_zero, List.getD_cons_succ]
  go_wp2_with (refine wpList_stoC _ rfl (.tmp 93) (.tmp 91) 32 rfl (Frm.obj (Frm.drew No w2) HE id) (vs := [.int .i64 0, .int .i64 2]) rfl (by kernel_rfl) (by show 5 + 2 ≤ 10; omega) (by intro u hu; simp at hu; rcases hu with rfl | rfl <;> rfl) rfl rfl #[.int .i64 0, .int .i64 2, .int .i64 3, .string ⟨#[97]⟩, .bool false, .int .i64 0, .int .i64 2, .int .i64 2, .string ⟨#[]⟩, .bool true] rfl ?_)
  intro w3 H3 f3 z3
  clear q0 q1 q2 q3 q4 q5 q6 q7 q8 q9 p0 p1 p2 p3 p4 p5 p6 p7 p8 p9
  have G9 : Frm No w2 w2.drew := Frm.drew No w2
  replace C2 := G9.obj C2 id
  replace O2 := G9.obj O2 id
  replace HE := G9.obj HE id
  replace D2 := D2.no G9
  replace S2 := S2.no G9
  replace F2 := F2.trans G9
  clear G9
  have F3 := F2.then f3 fun k hk e => by have := z2; omega
  have O3 := f3.obj O2 (by omega)
  have D3 := D2.frm f3 fun k hk e => by omega
  have C3 := f3.obj C2 (by omega)
  have S3 := S2.frm f3 fun k hk e => by omega
  have E3 : Ow w3 (fun k => k = w1.heap.size + 1 + 1 + 1) 59 eEl (.slice (some ⟨w1.heap.size + 1 + 1 + 1, 0, none⟩) 2 2) [(0, 2, 3, ⟨#[97]⟩, false), (0, 2, 2, ⟨#[]⟩, true)] := Ow.row (E := eEl) (l := ([(0, 2, 3, ⟨#[97]⟩, false), (0, 2, 2, ⟨#[]⟩, true)] : List El)) (c := 2) H3 rfl (by show 2 ≤ 2; omega) (by decide) rfl rfl
  clear F2 O2 D2 S2 E2 HS f3 C2 HE z2 H3
  obtain ⟨q0, q1, q2, q3, q4, q5, q6, q7, q8, q9⟩ := obj10 C3
  obtain ⟨t0, t1, t2, t3, t4, t5, t6, t7, t8, t9, t10, t11, t12, t13⟩ := obj14 O3
  have hF : ∀ x1 x2 x3, cval (fB 9 (y + 1)) x1 x2 x3 = (fun x1 x2 x3 => .agg #[.int .i64 3, .bool false, .int .i64 0, .int .i64 0, .string ⟨#[]⟩, .int .i64 0, .int .i64 0, x1, x2, x3]) x1 x2 x3 := fun x1 x2 x3 => rfl
  have HM := fB_may ⟨9, by omega⟩ ⟨y, by omega⟩ (by show (9 : Nat) ≠ 12; decide)
  have HZ : CellZ (fB 9 (y + 1)) := ⟨fG_z.v, fG_z.e, (fun x hx => by simp only [fB, fG, fL, List.mem_cons, List.not_mem_nil, or_false] at hx; rcases hx with rfl | rfl <;> first | (show (1 : Nat) ≤ 2 ^ 63 - 1; omega) | (show (0 : Nat) ≤ 2 ^ 63 - 1; omega) | (show Z.size ≤ 2 ^ 63 - 1; omega))⟩
  go_wp2_with (fail)
  have R3 : CellR w3 (fB 9 (y + 1)) (.slice none 0 0) (.slice (some ⟨w1.heap.size + 1 + 1 + 1, 0, none⟩) 2 2) (.slice (some ⟨w1.heap.size + 1 + 1, 0, none⟩) 2 2) := ⟨RdS.nil _ _, E3.rd, S3.rd⟩
  have HB : CellB (fB 9 (y + 1)) := ⟨(by show 0 * 32 ≤ _; unfold reachBytes; omega), (by show 2 * 48 ≤ _; unfold reachBytes; omega), (by show 2 * 8 ≤ _; unfold reachBytes; omega)⟩
  refine (apply_no hF HM R3 HB HZ (o := ⟨(1, 9), 4, [8, 8], 4, ⟨#[84]⟩, ⟨#[105]⟩, ⟨#[102]⟩, ⟨#[]⟩, (0, 0), (0, 0), []⟩) ⟨D3.rd, RdS.nil _ _⟩ ⟨by decide, by decide, by decide, by decide⟩).mono ?_
  rintro e w4 ⟨b1, d1, b2, d2, b3, d3, rfl, r4, f4⟩
  have F4 := F3.trans f4
  have R4 := R3.no f4
  have C4 := f4.obj C3 id
  clear F3 R3 C3 O3 D3 S3 E3 f4 q0 q1 q2 q3 q4 q5 q6 q7 q8 q9 t0 t1 t2 t3 t4 t5 t6 t7 t8 t9 t10 t11 t12 t13
  have n4 := lt_of_block C4
  obtain ⟨q0, q1, q2, q3, q4, q5, q6, q7, q8, q9⟩ := obj10 C4
  go_wp2_with (fail)
  have G4 := (Frm.refl No w4).al (.cells #[.int .i64 0, .bool false, .int .i64 0, .int .i64 0, .string ⟨#[]⟩, .int .i64 0, .int .i64 0, .slice b1 0 d1, .slice b2 0 d2, .slice b3 0 d3] 30 (0, 0))
  refine (may_no hF HM (R4.no G4) HZ).mono ?_
  rintro e w5 ⟨rfl, f5⟩
  have Z5 := f5.obj (heap_alloc_new w4 (.cells #[.int .i64 0, .bool false, .int .i64 0, .int .i64 0, .string ⟨#[]⟩, .int .i64 0, .int .i64 0, .slice b1 0 d1, .slice b2 0 d2, .slice b3 0 d3] 30 (0, 0))) id
  have G5 := G4.trans f5
  have F5 := F4.trans G5
  have r5 := r4.no G5
  clear F4 R4 C4 G4 G5 f5 r4 n4 q0 q1 q2 q3 q4 q5 q6 q7 q8 q9
  have n5 := lt_of_block Z5
  obtain ⟨q0, q1, q2, q3, q4, q5, q6, q7, q8, q9⟩ := obj10 Z5
  go_wp2_with (fail)
  refine (sameCell_ok r5 (c := zeroC) (ve' := .slice none 0 0) (vl' := .slice none 0 0) (vs' := .slice none 0 0) ⟨RdS.nil _ _, RdS.nil _ _, RdS.nil _ _⟩).mono ?_
  rintro e w6 ⟨rfl, f6⟩
  go_wp2_with (go_at_call 18; refine (num_ok _ _).mono ?_; rintro e w' ⟨rfl, rfl⟩)
  go_ret
  exact ⟨rfl, F5.trans f6⟩
end Go.Proofs.YtofikfkgiblblaaGreatDoor

/- tattlelaw12.CellForms: further ways. -/
namespace Go.Proofs.YtofikfkgiblblaaGreatDoor
set_option linter.unusedVariables false
set_option linter.unusedSimpArgs false
open Go.RowKit Go.Lib Go.Tt Go.Shelf
set_option maxHeartbeats 8000000 in
set_option maxRecDepth 100000 in
theorem forms10 {w0 : World} (tab : Tab w0) (which x : Int) (hk : (IntKind.u64.wrap which).tmod 18 = 10) :
    Calls Tryz.prog 5 #[.int .i64 which, .int .i64 x] w0 fun e w' => e = .returned (.bool true) ∧ Frm No w0 w' := by
  obtain ⟨y, hy, hy1⟩ := mask_nat 63 x _ (and_63 x)
  have HA := Lib.hid (awake_ok tab)
  clear tab
  go_enter Tryz.func5, Tryz.ntmps5
  go_wp2_with (fail)
  refine HA.out.mono ?_
  rintro e w1 ⟨rfl, F1⟩
  clear HA
  go_wp2_with (fail)
  have FX : Frm No w1 (((((w1.alloc (.cells #[.int .i64 8, .int .i64 8] 3 (0, 0))).alloc (.cells #[.int .i64 1, .int .i64 9, .int .i64 4, .slice (some ⟨w1.heap.size, 0, none⟩) 2 2, .int .i64 4, .string ⟨#[84]⟩, .string ⟨#[105]⟩, .string ⟨#[102]⟩, .string ⟨#[]⟩, .int .i64 0, .int .i64 0, .int .i64 0, .int .i64 0, .slice none 0 0] 35 (0, 0))).alloc (.cells #[.int .i64 5, .int .i64 5] 3 (0, 0))).alloc (.cells #[.int .i64 0, .int .i64 2, .int .i64 3, .string ⟨#[97]⟩, .bool false, .int .i64 0, .int .i64 3, .int .i64 2, .string ⟨#[]⟩, .bool true] 59 (0, 0))).alloc (.cells #[.int .i64 3, .bool false, .int .i64 0, .int .i64 0, .string ⟨#[]⟩, .int .i64 0, .int .i64 0, .slice none 0 0, .slice (some ⟨w1.heap.size + 1 + 1 + 1, 0, none⟩) 2 2, .slice (some ⟨w1.heap.size + 1 + 1, 0, none⟩) 2 2] 30 (0, 0))) := (((((Frm.refl No w1).al _).al _).al _).al _).al _
  have hD : (((((w1.alloc (.cells #[.int .i64 8, .int .i64 8] 3 (0, 0))).alloc (.cells #[.int .i64 1, .int .i64 9, .int .i64 4, .slice (some ⟨w1.heap.size, 0, none⟩) 2 2, .int .i64 4, .string ⟨#[84]⟩, .string ⟨#[105]⟩, .string ⟨#[102]⟩, .string ⟨#[]⟩, .int .i64 0, .int .i64 0, .int .i64 0, .int .i64 0, .slice none 0 0] 35 (0, 0))).alloc (.cells #[.int .i64 5, .int .i64 5] 3 (0, 0))).alloc (.cells #[.int .i64 0, .int .i64 2, .int .i64 3, .string ⟨#[97]⟩, .bool false, .int .i64 0, .int .i64 3, .int .i64 2, .string ⟨#[]⟩, .bool true] 59 (0, 0))).alloc (.cells #[.int .i64 3, .bool false, .int .i64 0, .int .i64 0, .string ⟨#[]⟩, .int .i64 0, .int .i64 0, .slice none 0 0, .slice (some ⟨w1.heap.size + 1 + 1 + 1, 0, none⟩) 2 2, .slice (some ⟨w1.heap.size + 1 + 1, 0, none⟩) 2 2] 30 (0, 0))).heap[w1.heap.size]? = some (.cells #[.int .i64 8, .int .i64 8] 3 (0, 0)) := al_old (al_old (al_old (al_old (heap_alloc_new w1 _))))
  have hO : (((((w1.alloc (.cells #[.int .i64 8, .int .i64 8] 3 (0, 0))).alloc (.cells #[.int .i64 1, .int .i64 9, .int .i64 4, .slice (some ⟨w1.heap.size, 0, none⟩) 2 2, .int .i64 4, .string ⟨#[84]⟩, .string ⟨#[105]⟩, .string ⟨#[102]⟩, .string ⟨#[]⟩, .int .i64 0, .int .i64 0, .int .i64 0, .int .i64 0, .slice none 0 0] 35 (0, 0))).alloc (.cells #[.int .i64 5, .int .i64 5] 3 (0, 0))).alloc (.cells #[.int .i64 0, .int .i64 2, .int .i64 3, .string ⟨#[97]⟩, .bool false, .int .i64 0, .int .i64 3, .int .i64 2, .string ⟨#[]⟩, .bool true] 59 (0, 0))).alloc (.cells #[.int .i64 3, .bool false, .int .i64 0, .int .i64 0, .string ⟨#[]⟩, .int .i64 0, .int .i64 0, .slice none 0 0, .slice (some ⟨w1.heap.size + 1 + 1 + 1, 0, none⟩) 2 2, .slice (some ⟨w1.heap.size + 1 + 1, 0, none⟩) 2 2] 30 (0, 0))).heap[w1.heap.size + 1]? = some (.cells #[.int .i64 1, .int .i64 9, .int .i64 4, .slice (some ⟨w1.heap.size, 0, none⟩) 2 2, .int .i64 4, .string ⟨#[84]⟩, .string ⟨#[105]⟩, .string ⟨#[102]⟩, .string ⟨#[]⟩, .int .i64 0, .int .i64 0, .int .i64 0, .int .i64 0, .slice none 0 0] 35 (0, 0)) := al_old (al_old (al_old (al_at (by simp))))
  have hS : (((((w1.alloc (.cells #[.int .i64 8, .int .i64 8] 3 (0, 0))).alloc (.cells #[.int .i64 1, .int .i64 9, .int .i64 4, .slice (some ⟨w1.heap.size, 0, none⟩) 2 2, .int .i64 4, .string ⟨#[84]⟩, .string ⟨#[105]⟩, .string ⟨#[102]⟩, .string ⟨#[]⟩, .int .i64 0, .int .i64 0, .int .i64 0, .int .i64 0, .slice none 0 0] 35 (0, 0))).alloc (.cells #[.int .i64 5, .int .i64 5] 3 (0, 0))).alloc (.cells #[.int .i64 0, .int .i64 2, .int .i64 3, .string ⟨#[97]⟩, .bool false, .int .i64 0, .int .i64 3, .int .i64 2, .string ⟨#[]⟩, .bool true] 59 (0, 0))).alloc (.cells #[.int .i64 3, .bool false, .int .i64 0, .int .i64 0, .string ⟨#[]⟩, .int .i64 0, .int .i64 0, .slice none 0 0, .slice (some ⟨w1.heap.size + 1 + 1 + 1, 0, none⟩) 2 2, .slice (some ⟨w1.heap.size + 1 + 1, 0, none⟩) 2 2] 30 (0, 0))).heap[w1.heap.size + 1 + 1]? = some (.cells #[.int .i64 5, .int .i64 5] 3 (0, 0)) := al_old (al_old (al_at (by simp)))
  have hE : (((((w1.alloc (.cells #[.int .i64 8, .int .i64 8] 3 (0, 0))).alloc (.cells #[.int .i64 1, .int .i64 9, .int .i64 4, .slice (some ⟨w1.heap.size, 0, none⟩) 2 2, .int .i64 4, .string ⟨#[84]⟩, .string ⟨#[105]⟩, .string ⟨#[102]⟩, .string ⟨#[]⟩, .int .i64 0, .int .i64 0, .int .i64 0, .int .i64 0, .slice none 0 0] 35 (0, 0))).alloc (.cells #[.int .i64 5, .int .i64 5] 3 (0, 0))).alloc (.cells #[.int .i64 0, .int .i64 2, .int .i64 3, .string ⟨#[97]⟩, .bool false, .int .i64 0, .int .i64 3, .int .i64 2, .string ⟨#[]⟩, .bool true] 59 (0, 0))).alloc (.cells #[.int .i64 3, .bool false, .int .i64 0, .int .i64 0, .string ⟨#[]⟩, .int .i64 0, .int .i64 0, .slice none 0 0, .slice (some ⟨w1.heap.size + 1 + 1 + 1, 0, none⟩) 2 2, .slice (some ⟨w1.heap.size + 1 + 1, 0, none⟩) 2 2] 30 (0, 0))).heap[w1.heap.size + 1 + 1 + 1]? = some (.cells #[.int .i64 0, .int .i64 2, .int .i64 3, .string ⟨#[97]⟩, .bool false, .int .i64 0, .int .i64 3, .int .i64 2, .string ⟨#[]⟩, .bool true] 59 (0, 0)) := al_old (al_at (by simp))
  have hC : (((((w1.alloc (.cells #[.int .i64 8, .int .i64 8] 3 (0, 0))).alloc (.cells #[.int .i64 1, .int .i64 9, .int .i64 4, .slice (some ⟨w1.heap.size, 0, none⟩) 2 2, .int .i64 4, .string ⟨#[84]⟩, .string ⟨#[105]⟩, .string ⟨#[102]⟩, .string ⟨#[]⟩, .int .i64 0, .int .i64 0, .int .i64 0, .int .i64 0, .slice none 0 0] 35 (0, 0))).alloc (.cells #[.int .i64 5, .int .i64 5] 3 (0, 0))).alloc (.cells #[.int .i64 0, .int .i64 2, .int .i64 3, .string ⟨#[97]⟩, .bool false, .int .i64 0, .int .i64 3, .int .i64 2, .string ⟨#[]⟩, .bool true] 59 (0, 0))).alloc (.cells #[.int .i64 3, .bool false, .int .i64 0, .int .i64 0, .string ⟨#[]⟩, .int .i64 0, .int .i64 0, .slice none 0 0, .slice (some ⟨w1.heap.size + 1 + 1 + 1, 0, none⟩) 2 2, .slice (some ⟨w1.heap.size + 1 + 1, 0, none⟩) 2 2] 30 (0, 0))).heap[w1.heap.size + 1 + 1 + 1 + 1]? = some (.cells #[.int .i64 3, .bool false, .int .i64 0, .int .i64 0, .string ⟨#[]⟩, .int .i64 0, .int .i64 0, .slice none 0 0, .slice (some ⟨w1.heap.size + 1 + 1 + 1, 0, none⟩) 2 2, .slice (some ⟨w1.heap.size + 1 + 1, 0, none⟩) 2 2] 30 (0, 0)) := al_at (by simp)
  have z1 := F1.size
  have FX := F1.trans FX
  clear F1
  revert hD hO hS hE hC FX
  generalize (((((w1.alloc (.cells #[.int .i64 8, .int .i64 8] 3 (0, 0))).alloc (.cells #[.int .i64 1, .int .i64 9, .int .i64 4, .slice (some ⟨w1.heap.size, 0, none⟩) 2 2, .int .i64 4, .string ⟨#[84]⟩, .string ⟨#[105]⟩, .string ⟨#[102]⟩, .string ⟨#[]⟩, .int .i64 0, .int .i64 0, .int .i64 0, .int .i64 0, .slice none 0 0] 35 (0, 0))).alloc (.cells #[.int .i64 5, .int .i64 5] 3 (0, 0))).alloc (.cells #[.int .i64 0, .int .i64 2, .int .i64 3, .string ⟨#[97]⟩, .bool false, .int .i64 0, .int .i64 3, .int .i64 2, .string ⟨#[]⟩, .bool true] 59 (0, 0))).alloc (.cells #[.int .i64 3, .bool false, .int .i64 0, .int .i64 0, .string ⟨#[]⟩, .int .i64 0, .int .i64 0, .slice none 0 0, .slice (some ⟨w1.heap.size + 1 + 1 + 1, 0, none⟩) 2 2, .slice (some ⟨w1.heap.size + 1 + 1, 0, none⟩) 2 2] 30 (0, 0))) = X
  intro hD hO hS hE hC FX
  have oD : Ow X (fun k => k = w1.heap.size) 3 eInt (.slice (some ⟨w1.heap.size, 0, none⟩) 2 2) [8, 8] := Ow.row (l := [8, 8]) (c := 2) hD rfl (by decide) (by decide) rfl rfl
  have oS : Ow X (fun k => k = w1.heap.size + 1 + 1) 3 eInt (.slice (some ⟨w1.heap.size + 1 + 1, 0, none⟩) 2 2) [5, 5] := Ow.row (l := [5, 5]) (c := 2) hS rfl (by decide) (by decide) rfl rfl
  have oE : Ow X (fun k => k = w1.heap.size + 1 + 1 + 1) 59 eEl (.slice (some ⟨w1.heap.size + 1 + 1 + 1, 0, none⟩) 2 2) [(0, 2, 3, ⟨#[97]⟩, false), (0, 3, 2, ⟨#[]⟩, true)] := Ow.row (E := eEl) (l := ([(0, 2, 3, ⟨#[97]⟩, false), (0, 3, 2, ⟨#[]⟩, true)] : List El)) (c := 2) hE rfl (by decide) (by decide) rfl rfl
  refine (may_G ⟨RdS.nil _ _, oE.rd, oS.rd⟩).mono ?_
  rintro e w2 ⟨rfl, f2⟩
  have F2 := FX.trans f2
  have C2 := f2.obj hC id
  have O2 := f2.obj hO id
  have D2 := oD.no f2
  have S2 := oS.no f2
  have E2 := oE.no f2
  have HS := f2.obj hS id
  have HE := f2.obj hE id
  have z2 := lt_of_block C2
  obtain ⟨q0, q1, q2, q3, q4, q5, q6, q7, q8, q9⟩ := obj10 C2
  clear FX hD hO hS hE hC oD oS oE f2
  go_wp2_with (refine wpList_stoC _ rfl (.tmp 101) (.tmp 99) 3 rfl HE (vs := [.int .i64 (1 - (1 + (y : Int)))]) rfl (by kernel_rfl) (by show 2 + 1 ≤ 10; omega) (by intro u hu; simp at hu; subst hu; rfl) rfl rfl #[.int .i64 0, .int .i64 2, .int .i64 (1 - (1 + (y : Int))), .string ⟨#[97]⟩, .bool false, .int .i64 0, .int .i64 3, .int .i64 2, .string ⟨#[]⟩, .bool true] rfl ?_)
  intro w3 H3 f3 z3
  clear q0 q1 q2 q3 q4 q5 q6 q7 q8 q9
  have F3 := F2.then f3 fun k hk e => by have := z2; omega
  have O3 := f3.obj O2 (by omega)
  have D3 := D2.frm f3 fun k hk e => by omega
  have C3 := f3.obj C2 (by omega)
  have S3 := S2.frm f3 fun k hk e => by omega
  have E3 : Ow w3 (fun k => k = w1.heap.size + 1 + 1 + 1) 59 eEl (.slice (some ⟨w1.heap.size + 1 + 1 + 1, 0, none⟩) 2 2) [(0, 2, 1 - (1 + (y : Int)), ⟨#[97]⟩, false), (0, 3, 2, ⟨#[]⟩, true)] := Ow.row (E := eEl) (l := ([(0, 2, 1 - (1 + (y : Int)), ⟨#[97]⟩, false), (0, 3, 2, ⟨#[]⟩, true)] : List El)) (c := 2) H3 rfl (by show 2 ≤ 2; omega) (by decide) rfl rfl
  clear F2 O2 D2 S2 E2 HS f3 C2 HE z2 H3
  obtain ⟨q0, q1, q2, q3, q4, q5, q6, q7, q8, q9⟩ := obj10 C3
  obtain ⟨t0, t1, t2, t3, t4, t5, t6, t7, t8, t9, t10, t11, t12, t13⟩ := obj14 O3
  have hF : ∀ x1 x2 x3, cval (fB 10 (y + 1)) x1 x2 x3 = (fun x1 x2 x3 => .agg #[.int .i64 3, .bool false, .int .i64 0, .int .i64 0, .string ⟨#[]⟩, .int .i64 0, .int .i64 0, x1, x2, x3]) x1 x2 x3 := fun x1 x2 x3 => rfl
  have hs : (fB 10 (y + 1)).elems = [(0, 2, 1 - (1 + (y : Int)), ⟨#[97]⟩, false), (0, 3, 2, ⟨#[]⟩, true)] := by
    have this : ((y + 1 : Nat) : Int) = 1 + (y : Int) := by omega
    show ([(0, 2, 1 - ((y + 1 : Nat) : Int), ⟨#[97]⟩, false), (0, 3, 2, ⟨#[]⟩, true)] : List El) = _
    rw [this]
  have HM := fB_may ⟨10, by omega⟩ ⟨y, by omega⟩ (by show (10 : Nat) ≠ 12; decide)
  have HZ : CellZ (fB 10 (y + 1)) := ⟨fG_z.v, fG_z.e, (fun x hx => by simp only [fB, fG, fL, List.mem_cons, List.not_mem_nil, or_false] at hx; rcases hx with rfl | rfl <;> first | (show (1 : Nat) ≤ 2 ^ 63 - 1; omega) | (show (0 : Nat) ≤ 2 ^ 63 - 1; omega) | (show Z.size ≤ 2 ^ 63 - 1; omega))⟩
  go_wp2_with (fail)
  have R3 : CellR w3 (fB 10 (y + 1)) (.slice none 0 0) (.slice (some ⟨w1.heap.size + 1 + 1 + 1, 0, none⟩) 2 2) (.slice (some ⟨w1.heap.size + 1 + 1, 0, none⟩) 2 2) := ⟨RdS.nil _ _, (by rw [hs]; exact E3.rd), S3.rd⟩
  have HB : CellB (fB 10 (y + 1)) := ⟨(by show 0 * 32 ≤ _; unfold reachBytes; omega), (by show 2 * 48 ≤ _; unfold reachBytes; omega), (by show 2 * 8 ≤ _; unfold reachBytes; omega)⟩
  refine (apply_no hF HM R3 HB HZ (o := ⟨(1, 9), 4, [8, 8], 4, ⟨#[84]⟩, ⟨#[105]⟩, ⟨#[102]⟩, ⟨#[]⟩, (0, 0), (0, 0), []⟩) ⟨D3.rd, RdS.nil _ _⟩ ⟨by decide, by decide, by decide, by decide⟩).mono ?_
  rintro e w4 ⟨b1, d1, b2, d2, b3, d3, rfl, r4, f4⟩
  have F4 := F3.trans f4
  have R4 := R3.no f4
  have C4 := f4.obj C3 id
  clear F3 R3 C3 O3 D3 S3 E3 f4 q0 q1 q2 q3 q4 q5 q6 q7 q8 q9 t0 t1 t2 t3 t4 t5 t6 t7 t8 t9 t10 t11 t12 t13
  have n4 := lt_of_block C4
  obtain ⟨q0, q1, q2, q3, q4, q5, q6, q7, q8, q9⟩ := obj10 C4
  go_wp2_with (fail)
  have G4 := (Frm.refl No w4).al (.cells #[.int .i64 0, .bool false, .int .i64 0, .int .i64 0, .string ⟨#[]⟩, .int .i64 0, .int .i64 0, .slice b1 0 d1, .slice b2 0 d2, .slice b3 0 d3] 30 (0, 0))
  refine (may_no hF HM (R4.no G4) HZ).mono ?_
  rintro e w5 ⟨rfl, f5⟩
  have Z5 := f5.obj (heap_alloc_new w4 (.cells #[.int .i64 0, .bool false, .int .i64 0, .int .i64 0, .string ⟨#[]⟩, .int .i64 0, .int .i64 0, .slice b1 0 d1, .slice b2 0 d2, .slice b3 0 d3] 30 (0, 0))) id
  have G5 := G4.trans f5
  have F5 := F4.trans G5
  have r5 := r4.no G5
  clear F4 R4 C4 G4 G5 f5 r4 n4 q0 q1 q2 q3 q4 q5 q6 q7 q8 q9
  have n5 := lt_of_block Z5
  obtain ⟨q0, q1, q2, q3, q4, q5, q6, q7, q8, q9⟩ := obj10 Z5
  go_wp2_with (fail)
  refine (sameCell_ok r5 (c := zeroC) (ve' := .slice none 0 0) (vl' := .slice none 0 0) (vs' := .slice none 0 0) ⟨RdS.nil _ _, RdS.nil _ _, RdS.nil _ _⟩).mono ?_
  rintro e w6 ⟨rfl, f6⟩
  go_wp2_with (go_at_call 18; refine (num_ok _ _).mono ?_; rintro e w' ⟨rfl, rfl⟩)
  go_ret
  exact ⟨rfl, F5.trans f6⟩
set_option maxHeartbeats 8000000 in
set_option maxRecDepth 100000 in
theorem forms11 {w0 : World} (tab : Tab w0) (which x : Int) (hk : (IntKind.u64.wrap which).tmod 18 = 11) :
    Calls Tryz.prog 5 #[.int .i64 which, .int .i64 x] w0 fun e w' => e = .returned (.bool true) ∧ Frm No w0 w' := by
  obtain ⟨y, hy, hy1⟩ := mask_nat 63 x _ (and_63 x)
  have HA := Lib.hid (awake_ok tab)
  clear tab
  go_enter Tryz.func5, Tryz.ntmps5
  go_wp2_with (fail)
  refine HA.out.mono ?_
  rintro e w1 ⟨rfl, F1⟩
  clear HA
  go_wp2_with (fail)
  have FX : Frm No w1 (((((w1.alloc (.cells #[.int .i64 8, .int .i64 8] 3 (0, 0))).alloc (.cells #[.int .i64 1, .int .i64 9, .int .i64 4, .slice (some ⟨w1.heap.size, 0, none⟩) 2 2, .int .i64 4, .string ⟨#[84]⟩, .string ⟨#[105]⟩, .string ⟨#[102]⟩, .string ⟨#[]⟩, .int .i64 0, .int .i64 0, .int .i64 0, .int .i64 0, .slice none 0 0] 35 (0, 0))).alloc (.cells #[.int .i64 5, .int .i64 5] 3 (0, 0))).alloc (.cells #[.int .i64 0, .int .i64 2, .int .i64 3, .string ⟨#[97]⟩, .bool false, .int .i64 0, .int .i64 3, .int .i64 2, .string ⟨#[]⟩, .bool true] 59 (0, 0))).alloc (.cells #[.int .i64 3, .bool false, .int .i64 0, .int .i64 0, .string ⟨#[]⟩, .int .i64 0, .int .i64 0, .slice none 0 0, .slice (some ⟨w1.heap.size + 1 + 1 + 1, 0, none⟩) 2 2, .slice (some ⟨w1.heap.size + 1 + 1, 0, none⟩) 2 2] 30 (0, 0))) := (((((Frm.refl No w1).al _).al _).al _).al _).al _
  have hD : (((((w1.alloc (.cells #[.int .i64 8, .int .i64 8] 3 (0, 0))).alloc (.cells #[.int .i64 1, .int .i64 9, .int .i64 4, .slice (some ⟨w1.heap.size, 0, none⟩) 2 2, .int .i64 4, .string ⟨#[84]⟩, .string ⟨#[105]⟩, .string ⟨#[102]⟩, .string ⟨#[]⟩, .int .i64 0, .int .i64 0, .int .i64 0, .int .i64 0, .slice none 0 0] 35 (0, 0))).alloc (.cells #[.int .i64 5, .int .i64 5] 3 (0, 0))).alloc (.cells #[.int .i64 0, .int .i64 2, .int .i64 3, .string ⟨#[97]⟩, .bool false, .int .i64 0, .int .i64 3, .int .i64 2, .string ⟨#[]⟩, .bool true] 59 (0, 0))).alloc (.cells #[.int .i64 3, .bool false, .int .i64 0, .int .i64 0, .string ⟨#[]⟩, .int .i64 0, .int .i64 0, .slice none 0 0, .slice (some ⟨w1.heap.size + 1 + 1 + 1, 0, none⟩) 2 2, .slice (some ⟨w1.heap.size + 1 + 1, 0, none⟩) 2 2] 30 (0, 0))).heap[w1.heap.size]? = some (.cells #[.int .i64 8, .int .i64 8] 3 (0, 0)) := al_old (al_old (al_old (al_old (heap_alloc_new w1 _))))
  have hO : (((((w1.alloc (.cells #[.int .i64 8, .int .i64 8] 3 (0, 0))).alloc (.cells #[.int .i64 1, .int .i64 9, .int .i64 4, .slice (some ⟨w1.heap.size, 0, none⟩) 2 2, .int .i64 4, .string ⟨#[84]⟩, .string ⟨#[105]⟩, .string ⟨#[102]⟩, .string ⟨#[]⟩, .int .i64 0, .int .i64 0, .int .i64 0, .int .i64 0, .slice none 0 0] 35 (0, 0))).alloc (.cells #[.int .i64 5, .int .i64 5] 3 (0, 0))).alloc (.cells #[.int .i64 0, .int .i64 2, .int .i64 3, .string ⟨#[97]⟩, .bool false, .int .i64 0, .int .i64 3, .int .i64 2, .string ⟨#[]⟩, .bool true] 59 (0, 0))).alloc (.cells #[.int .i64 3, .bool false, .int .i64 0, .int .i64 0, .string ⟨#[]⟩, .int .i64 0, .int .i64 0, .slice none 0 0, .slice (some ⟨w1.heap.size + 1 + 1 + 1, 0, none⟩) 2 2, .slice (some ⟨w1.heap.size + 1 + 1, 0, none⟩) 2 2] 30 (0, 0))).heap[w1.heap.size + 1]? = some (.cells #[.int .i64 1, .int .i64 9, .int .i64 4, .slice (some ⟨w1.heap.size, 0, none⟩) 2 2, .int .i64 4, .string ⟨#[84]⟩, .string ⟨#[105]⟩, .string ⟨#[102]⟩, .string ⟨#[]⟩, .int .i64 0, .int .i64 0, .int .i64 0, .int .i64 0, .slice none 0 0] 35 (0, 0)) := al_old (al_old (al_old (al_at (by simp))))
  have hS : (((((w1.alloc (.cells #[.int .i64 8, .int .i64 8] 3 (0, 0))).alloc (.cells #[.int .i64 1, .int .i64 9, .int .i64 4, .slice (some ⟨w1.heap.size, 0, none⟩) 2 2, .int .i64 4, .string ⟨#[84]⟩, .string ⟨#[105]⟩, .string ⟨#[102]⟩, .string ⟨#[]⟩, .int .i64 0, .int .i64 0, .int .i64 0, .int .i64 0, .slice none 0 0] 35 (0, 0))).alloc (.cells #[.int .i64 5, .int .i64 5] 3 (0, 0))).alloc (.cells #[.int .i64 0, .int .i64 2, .int .i64 3, .string ⟨#[97]⟩, .bool false, .int .i64 0, .int .i64 3, .int .i64 2, .string ⟨#[]⟩, .bool true] 59 (0, 0))).alloc (.cells #[.int .i64 3, .bool false, .int .i64 0, .int .i64 0, .string ⟨#[]⟩, .int .i64 0, .int .i64 0, .slice none 0 0, .slice (some ⟨w1.heap.size + 1 + 1 + 1, 0, none⟩) 2 2, .slice (some ⟨w1.heap.size + 1 + 1, 0, none⟩) 2 2] 30 (0, 0))).heap[w1.heap.size + 1 + 1]? = some (.cells #[.int .i64 5, .int .i64 5] 3 (0, 0)) := al_old (al_old (al_at (by simp)))
  have hE : (((((w1.alloc (.cells #[.int .i64 8, .int .i64 8] 3 (0, 0))).alloc (.cells #[.int .i64 1, .int .i64 9, .int .i64 4, .slice (some ⟨w1.heap.size, 0, none⟩) 2 2, .int .i64 4, .string ⟨#[84]⟩, .string ⟨#[105]⟩, .string ⟨#[102]⟩, .string ⟨#[]⟩, .int .i64 0, .int .i64 0, .int .i64 0, .int .i64 0, .slice none 0 0] 35 (0, 0))).alloc (.cells #[.int .i64 5, .int .i64 5] 3 (0, 0))).alloc (.cells #[.int .i64 0, .int .i64 2, .int .i64 3, .string ⟨#[97]⟩, .bool false, .int .i64 0, .int .i64 3, .int .i64 2, .string ⟨#[]⟩, .bool true] 59 (0, 0))).alloc (.cells #[.int .i64 3, .bool false, .int .i64 0, .int .i64 0, .string ⟨#[]⟩, .int .i64 0, .int .i64 0, .slice none 0 0, .slice (some ⟨w1.heap.size + 1 + 1 + 1, 0, none⟩) 2 2, .slice (some ⟨w1.heap.size + 1 + 1, 0, none⟩) 2 2] 30 (0, 0))).heap[w1.heap.size + 1 + 1 + 1]? = some (.cells #[.int .i64 0, .int .i64 2, .int .i64 3, .string ⟨#[97]⟩, .bool false, .int .i64 0, .int .i64 3, .int .i64 2, .string ⟨#[]⟩, .bool true] 59 (0, 0)) := al_old (al_at (by simp))
  have hC : (((((w1.alloc (.cells #[.int .i64 8, .int .i64 8] 3 (0, 0))).alloc (.cells #[.int .i64 1, .int .i64 9, .int .i64 4, .slice (some ⟨w1.heap.size, 0, none⟩) 2 2, .int .i64 4, .string ⟨#[84]⟩, .string ⟨#[105]⟩, .string ⟨#[102]⟩, .string ⟨#[]⟩, .int .i64 0, .int .i64 0, .int .i64 0, .int .i64 0, .slice none 0 0] 35 (0, 0))).alloc (.cells #[.int .i64 5, .int .i64 5] 3 (0, 0))).alloc (.cells #[.int .i64 0, .int .i64 2, .int .i64 3, .string ⟨#[97]⟩, .bool false, .int .i64 0, .int .i64 3, .int .i64 2, .string ⟨#[]⟩, .bool true] 59 (0, 0))).alloc (.cells #[.int .i64 3, .bool false, .int .i64 0, .int .i64 0, .string ⟨#[]⟩, .int .i64 0, .int .i64 0, .slice none 0 0, .slice (some ⟨w1.heap.size + 1 + 1 + 1, 0, none⟩) 2 2, .slice (some ⟨w1.heap.size + 1 + 1, 0, none⟩) 2 2] 30 (0, 0))).heap[w1.heap.size + 1 + 1 + 1 + 1]? = some (.cells #[.int .i64 3, .bool false, .int .i64 0, .int .i64 0, .string ⟨#[]⟩, .int .i64 0, .int .i64 0, .slice none 0 0, .slice (some ⟨w1.heap.size + 1 + 1 + 1, 0, none⟩) 2 2, .slice (some ⟨w1.heap.size + 1 + 1, 0, none⟩) 2 2] 30 (0, 0)) := al_at (by simp)
  have z1 := F1.size
  have FX := F1.trans FX
  clear F1
  revert hD hO hS hE hC FX
  generalize (((((w1.alloc (.cells #[.int .i64 8, .int .i64 8] 3 (0, 0))).alloc (.cells #[.int .i64 1, .int .i64 9, .int .i64 4, .slice (some ⟨w1.heap.size, 0, none⟩) 2 2, .int .i64 4, .string ⟨#[84]⟩, .string ⟨#[105]⟩, .string ⟨#[102]⟩, .string ⟨#[]⟩, .int .i64 0, .int .i64 0, .int .i64 0, .int .i64 0, .slice none 0 0] 35 (0, 0))).alloc (.cells #[.int .i64 5, .int .i64 5] 3 (0, 0))).alloc (.cells #[.int .i64 0, .int .i64 2, .int .i64 3, .string ⟨#[97]⟩, .bool false, .int .i64 0, .int .i64 3, .int .i64 2, .string ⟨#[]⟩, .bool true] 59 (0, 0))).alloc (.cells #[.int .i64 3, .bool false, .int .i64 0, .int .i64 0, .string ⟨#[]⟩, .int .i64 0, .int .i64 0, .slice none 0 0, .slice (some ⟨w1.heap.size + 1 + 1 + 1, 0, none⟩) 2 2, .slice (some ⟨w1.heap.size + 1 + 1, 0, none⟩) 2 2] 30 (0, 0))) = X
  intro hD hO hS hE hC FX
  have oD : Ow X (fun k => k = w1.heap.size) 3 eInt (.slice (some ⟨w1.heap.size, 0, none⟩) 2 2) [8, 8] := Ow.row (l := [8, 8]) (c := 2) hD rfl (by decide) (by decide) rfl rfl
  have oS : Ow X (fun k => k = w1.heap.size + 1 + 1) 3 eInt (.slice (some ⟨w1.heap.size + 1 + 1, 0, none⟩) 2 2) [5, 5] := Ow.row (l := [5, 5]) (c := 2) hS rfl (by decide) (by decide) rfl rfl
  have oE : Ow X (fun k => k = w1.heap.size + 1 + 1 + 1) 59 eEl (.slice (some ⟨w1.heap.size + 1 + 1 + 1, 0, none⟩) 2 2) [(0, 2, 3, ⟨#[97]⟩, false), (0, 3, 2, ⟨#[]⟩, true)] := Ow.row (E := eEl) (l := ([(0, 2, 3, ⟨#[97]⟩, false), (0, 3, 2, ⟨#[]⟩, true)] : List El)) (c := 2) hE rfl (by decide) (by decide) rfl rfl
  refine (may_G ⟨RdS.nil _ _, oE.rd, oS.rd⟩).mono ?_
  rintro e w2 ⟨rfl, f2⟩
  have F2 := FX.trans f2
  have C2 := f2.obj hC id
  have O2 := f2.obj hO id
  have D2 := oD.no f2
  have S2 := oS.no f2
  have E2 := oE.no f2
  have HS := f2.obj hS id
  have HE := f2.obj hE id
  have z2 := lt_of_block C2
  obtain ⟨q0, q1, q2, q3, q4, q5, q6, q7, q8, q9⟩ := obj10 C2
  clear FX hD hO hS hE hC oD oS oE f2
  go_wp2_with (refine wpList_stoC _ rfl (.tmp 107) (.const (.string ⟨#[120]⟩)) 9 rfl HE (vs := [.string ⟨#[120]⟩]) rfl (by kernel_rfl) (by show 8 + 1 ≤ 10; omega) (by intro u hu; simp at hu; subst hu; rfl) rfl rfl #[.int .i64 0, .int .i64 2, .int .i64 3, .string ⟨#[97]⟩, .bool false, .int .i64 0, .int .i64 3, .int .i64 2, .string ⟨#[120]⟩, .bool true] rfl ?_)
  intro w3 H3 f3 z3
  clear q0 q1 q2 q3 q4 q5 q6 q7 q8 q9
  have F3 := F2.then f3 fun k hk e => by have := z2; omega
  have O3 := f3.obj O2 (by omega)
  have D3 := D2.frm f3 fun k hk e => by omega
  have C3 := f3.obj C2 (by omega)
  have S3 := S2.frm f3 fun k hk e => by omega
  have E3 : Ow w3 (fun k => k = w1.heap.size + 1 + 1 + 1) 59 eEl (.slice (some ⟨w1.heap.size + 1 + 1 + 1, 0, none⟩) 2 2) [(0, 2, 3, ⟨#[97]⟩, false), (0, 3, 2, ⟨#[120]⟩, true)] := Ow.row (E := eEl) (l := ([(0, 2, 3, ⟨#[97]⟩, false), (0, 3, 2, ⟨#[120]⟩, true)] : List El)) (c := 2) H3 rfl (by show 2 ≤ 2; omega) (by decide) rfl rfl
  clear F2 O2 D2 S2 E2 HS f3 C2 HE z2 H3
  obtain ⟨q0, q1, q2, q3, q4, q5, q6, q7, q8, q9⟩ := obj10 C3
  obtain ⟨t0, t1, t2, t3, t4, t5, t6, t7, t8, t9, t10, t11, t12, t13⟩ := obj14 O3
  have hF : ∀ x1 x2 x3, cval (fB 11 (y + 1)) x1 x2 x3 = (fun x1 x2 x3 => .agg #[.int .i64 3, .bool false, .int .i64 0, .int .i64 0, .string ⟨#[]⟩, .int .i64 0, .int .i64 0, x1, x2, x3]) x1 x2 x3 := fun x1 x2 x3 => rfl
  have HM := fB_may ⟨11, by omega⟩ ⟨y, by omega⟩ (by show (11 : Nat) ≠ 12; decide)
  have HZ : CellZ (fB 11 (y + 1)) := ⟨fG_z.v, fG_z.e, (fun x hx => by simp only [fB, fG, fL, List.mem_cons, List.not_mem_nil, or_false] at hx; rcases hx with rfl | rfl <;> first | (show (1 : Nat) ≤ 2 ^ 63 - 1; omega) | (show (0 : Nat) ≤ 2 ^ 63 - 1; omega) | (show Z.size ≤ 2 ^ 63 - 1; omega))⟩
  go_wp2_with (fail)
  have R3 : CellR w3 (fB 11 (y + 1)) (.slice none 0 0) (.slice (some ⟨w1.heap.size + 1 + 1 + 1, 0, none⟩) 2 2) (.slice (some ⟨w1.heap.size + 1 + 1, 0, none⟩) 2 2) := ⟨RdS.nil _ _, E3.rd, S3.rd⟩
  have HB : CellB (fB 11 (y + 1)) := ⟨(by show 0 * 32 ≤ _; unfold reachBytes; omega), (by show 2 * 48 ≤ _; unfold reachBytes; omega), (by show 2 * 8 ≤ _; unfold reachBytes; omega)⟩
  refine (apply_no hF HM R3 HB HZ (o := ⟨(1, 9), 4, [8, 8], 4, ⟨#[84]⟩, ⟨#[105]⟩, ⟨#[102]⟩, ⟨#[]⟩, (0, 0), (0, 0), []⟩) ⟨D3.rd, RdS.nil _ _⟩ ⟨by decide, by decide, by decide, by decide⟩).mono ?_
  rintro e w4 ⟨b1, d1, b2, d2, b3, d3, rfl, r4, f4⟩
  have F4 := F3.trans f4
  have R4 := R3.no f4
  have C4 := f4.obj C3 id
  clear F3 R3 C3 O3 D3 S3 E3 f4 q0 q1 q2 q3 q4 q5 q6 q7 q8 q9 t0 t1 t2 t3 t4 t5 t6 t7 t8 t9 t10 t11 t12 t13
  have n4 := lt_of_block C4
  obtain ⟨q0, q1, q2, q3, q4, q5, q6, q7, q8, q9⟩ := obj10 C4
  go_wp2_with (fail)
  have G4 := (Frm.refl No w4).al (.cells #[.int .i64 0, .bool false, .int .i64 0, .int .i64 0, .string ⟨#[]⟩, .int .i64 0, .int .i64 0, .slice b1 0 d1, .slice b2 0 d2, .slice b3 0 d3] 30 (0, 0))
  refine (may_no hF HM (R4.no G4) HZ).mono ?_
  rintro e w5 ⟨rfl, f5⟩
  have Z5 := f5.obj (heap_alloc_new w4 (.cells #[.int .i64 0, .bool false, .int .i64 0, .int .i64 0, .string ⟨#[]⟩, .int .i64 0, .int .i64 0, .slice b1 0 d1, .slice b2 0 d2, .slice b3 0 d3] 30 (0, 0))) id
  have G5 := G4.trans f5
  have F5 := F4.trans G5
  have r5 := r4.no G5
  clear F4 R4 C4 G4 G5 f5 r4 n4 q0 q1 q2 q3 q4 q5 q6 q7 q8 q9
  have n5 := lt_of_block Z5
  obtain ⟨q0, q1, q2, q3, q4, q5, q6, q7, q8, q9⟩ := obj10 Z5
  go_wp2_with (fail)
  refine (sameCell_ok r5 (c := zeroC) (ve' := .slice none 0 0) (vl' := .slice none 0 0) (vs' := .slice none 0 0) ⟨RdS.nil _ _, RdS.nil _ _, RdS.nil _ _⟩).mono ?_
  rintro e w6 ⟨rfl, f6⟩
  go_wp2_with (go_at_call 18; refine (num_ok _ _).mono ?_; rintro e w' ⟨rfl, rfl⟩)
  go_ret
  exact ⟨rfl, F5.trans f6⟩
end Go.Proofs.YtofikfkgiblblaaGreatDoor

/- tattlelaw12.CellForms: further ways. -/
namespace Go.Proofs.YtofikfkgiblblaaGreatDoor
set_option linter.unusedVariables false
set_option linter.unusedSimpArgs false
open Go.RowKit Go.Lib Go.Tt Go.Shelf
set_option maxHeartbeats 8000000 in
set_option maxRecDepth 100000 in
theorem forms12 {w0 : World} (tab : Tab w0) (which x : Int) (hk : (IntKind.u64.wrap which).tmod 18 = 12) :
    Calls Tryz.prog 5 #[.int .i64 which, .int .i64 x] w0 fun e w' => e = .returned (.bool true) ∧ Frm No w0 w' := by
  obtain ⟨y, hy, hy1⟩ := mask_nat 63 x _ (and_63 x)
  have HA := Lib.hid (awake_ok tab)
  clear tab
  go_enter Tryz.func5, Tryz.ntmps5
  go_wp2_with (fail)
  refine HA.out.mono ?_
  rintro e w1 ⟨rfl, F1⟩
  clear HA
  go_wp2_with (fail)
  have FX : Frm No w1 (((((w1.alloc (.cells #[.int .i64 8, .int .i64 8] 3 (0, 0))).alloc (.cells #[.int .i64 1, .int .i64 9, .int .i64 4, .slice (some ⟨w1.heap.size, 0, none⟩) 2 2, .int .i64 4, .string ⟨#[84]⟩, .string ⟨#[105]⟩, .string ⟨#[102]⟩, .string ⟨#[]⟩, .int .i64 0, .int .i64 0, .int .i64 0, .int .i64 0, .slice none 0 0] 35 (0, 0))).alloc (.cells #[.int .i64 5, .int .i64 5] 3 (0, 0))).alloc (.cells #[.int .i64 0, .int .i64 2, .int .i64 3, .string ⟨#[97]⟩, .bool false, .int .i64 0, .int .i64 3, .int .i64 2, .string ⟨#[]⟩, .bool true] 59 (0, 0))).alloc (.cells #[.int .i64 3, .bool false, .int .i64 0, .int .i64 0, .string ⟨#[]⟩, .int .i64 0, .int .i64 0, .slice none 0 0, .slice (some ⟨w1.heap.size + 1 + 1 + 1, 0, none⟩) 2 2, .slice (some ⟨w1.heap.size + 1 + 1, 0, none⟩) 2 2] 30 (0, 0))) := (((((Frm.refl No w1).al _).al _).al _).al _).al _
  have hD : (((((w1.alloc (.cells #[.int .i64 8, .int .i64 8] 3 (0, 0))).alloc (.cells #[.int .i64 1, .int .i64 9, .int .i64 4, .slice (some ⟨w1.heap.size, 0, none⟩) 2 2, .int .i64 4, .string ⟨#[84]⟩, .string ⟨#[105]⟩, .string ⟨#[102]⟩, .string ⟨#[]⟩, .int .i64 0, .int .i64 0, .int .i64 0, .int .i64 0, .slice none 0 0] 35 (0, 0))).alloc (.cells #[.int .i64 5, .int .i64 5] 3 (0, 0))).alloc (.cells #[.int .i64 0, .int .i64 2, .int .i64 3, .string ⟨#[97]⟩, .bool false, .int .i64 0, .int .i64 3, .int .i64 2, .string ⟨#[]⟩, .bool true] 59 (0, 0))).alloc (.cells #[.int .i64 3, .bool false, .int .i64 0, .int .i64 0, .string ⟨#[]⟩, .int .i64 0, .int .i64 0, .slice none 0 0, .slice (some ⟨w1.heap.size + 1 + 1 + 1, 0, none⟩) 2 2, .slice (some ⟨w1.heap.size + 1 + 1, 0, none⟩) 2 2] 30 (0, 0))).heap[w1.heap.size]? = some (.cells #[.int .i64 8, .int .i64 8] 3 (0, 0)) := al_old (al_old (al_old (al_old (heap_alloc_new w1 _))))
  have hO : (((((w1.alloc (.cells #[.int .i64 8, .int .i64 8] 3 (0, 0))).alloc (.cells #[.int .i64 1, .int .i64 9, .int .i64 4, .slice (some ⟨w1.heap.size, 0, none⟩) 2 2, .int .i64 4, .string ⟨#[84]⟩, .string ⟨#[105]⟩, .string ⟨#[102]⟩, .string ⟨#[]⟩, .int .i64 0, .int .i64 0, .int .i64 0, .int .i64 0, .slice none 0 0] 35 (0, 0))).alloc (.cells #[.int .i64 5, .int .i64 5] 3 (0, 0))).alloc (.cells #[.int .i64 0, .int .i64 2, .int .i64 3, .string ⟨#[97]⟩, .bool false, .int .i64 0, .int .i64 3, .int .i64 2, .string ⟨#[]⟩, .bool true] 59 (0, 0))).alloc (.cells #[.int .i64 3, .bool false, .int .i64 0, .int .i64 0, .string ⟨#[]⟩, .int .i64 0, .int .i64 0, .slice none 0 0, .slice (some ⟨w1.heap.size + 1 + 1 + 1, 0, none⟩) 2 2, .slice (some ⟨w1.heap.size + 1 + 1, 0, none⟩) 2 2] 30 (0, 0))).heap[w1.heap.size + 1]? = some (.cells #[.int .i64 1, .int .i64 9, .int .i64 4, .slice (some ⟨w1.heap.size, 0, none⟩) 2 2, .int .i64 4, .string ⟨#[84]⟩, .string ⟨#[105]⟩, .string ⟨#[102]⟩, .string ⟨#[]⟩, .int .i64 0, .int .i64 0, .int .i64 0, .int .i64 0, .slice none 0 0] 35 (0, 0)) := al_old (al_old (al_old (al_at (by simp))))
  have hS : (((((w1.alloc (.cells #[.int .i64 8, .int .i64 8] 3 (0, 0))).alloc (.cells #[.int .i64 1, .int .i64 9, .int .i64 4, .slice (some ⟨w1.heap.size, 0, none⟩) 2 2, .int .i64 4, .string ⟨#[84]⟩, .string ⟨#[105]⟩, .string ⟨#[102]⟩, .string ⟨#[]⟩, .int .i64 0, .int .i64 0, .int .i64 0, .int .i64 0, .slice none 0 0] 35 (0, 0))).alloc (.cells #[.int .i64 5, .int .i64 5] 3 (0, 0))).alloc (.cells #[.int .i64 0, .int .i64 2, .int .i64 3, .string ⟨#[97]⟩, .bool false, .int .i64 0, .int .i64 3, .int .i64 2, .string ⟨#[]⟩, .bool true] 59 (0, 0))).alloc (.cells #[.int .i64 3, .bool false, .int .i64 0, .int .i64 0, .string ⟨#[]⟩, .int .i64 0, .int .i64 0, .slice none 0 0, .slice (some ⟨w1.heap.size + 1 + 1 + 1, 0, none⟩) 2 2, .slice (some ⟨w1.heap.size + 1 + 1, 0, none⟩) 2 2] 30 (0, 0))).heap[w1.heap.size + 1 + 1]? = some (.cells #[.int .i64 5, .int .i64 5] 3 (0, 0)) := al_old (al_old (al_at (by simp)))
  have hE : (((((w1.alloc (.cells #[.int .i64 8, .int .i64 8] 3 (0, 0))).alloc (.cells #[.int .i64 1, .int .i64 9, .int .i64 4, .slice (some ⟨w1.heap.size, 0, none⟩) 2 2, .int .i64 4, .string ⟨#[84]⟩, .string ⟨#[105]⟩, .string ⟨#[102]⟩, .string ⟨#[]⟩, .int .i64 0, .int .i64 0, .int .i64 0, .int .i64 0, .slice none 0 0] 35 (0, 0))).alloc (.cells #[.int .i64 5, .int .i64 5] 3 (0, 0))).alloc (.cells #[.int .i64 0, .int .i64 2, .int .i64 3, .string ⟨#[97]⟩, .bool false, .int .i64 0, .int .i64 3, .int .i64 2, .string ⟨#[]⟩, .bool true] 59 (0, 0))).alloc (.cells #[.int .i64 3, .bool false, .int .i64 0, .int .i64 0, .string ⟨#[]⟩, .int .i64 0, .int .i64 0, .slice none 0 0, .slice (some ⟨w1.heap.size + 1 + 1 + 1, 0, none⟩) 2 2, .slice (some ⟨w1.heap.size + 1 + 1, 0, none⟩) 2 2] 30 (0, 0))).heap[w1.heap.size + 1 + 1 + 1]? = some (.cells #[.int .i64 0, .int .i64 2, .int .i64 3, .string ⟨#[97]⟩, .bool false, .int .i64 0, .int .i64 3, .int .i64 2, .string ⟨#[]⟩, .bool true] 59 (0, 0)) := al_old (al_at (by simp))
  have hC : (((((w1.alloc (.cells #[.int .i64 8, .int .i64 8] 3 (0, 0))).alloc (.cells #[.int .i64 1, .int .i64 9, .int .i64 4, .slice (some ⟨w1.heap.size, 0, none⟩) 2 2, .int .i64 4, .string ⟨#[84]⟩, .string ⟨#[105]⟩, .string ⟨#[102]⟩, .string ⟨#[]⟩, .int .i64 0, .int .i64 0, .int .i64 0, .int .i64 0, .slice none 0 0] 35 (0, 0))).alloc (.cells #[.int .i64 5, .int .i64 5] 3 (0, 0))).alloc (.cells #[.int .i64 0, .int .i64 2, .int .i64 3, .string ⟨#[97]⟩, .bool false, .int .i64 0, .int .i64 3, .int .i64 2, .string ⟨#[]⟩, .bool true] 59 (0, 0))).alloc (.cells #[.int .i64 3, .bool false, .int .i64 0, .int .i64 0, .string ⟨#[]⟩, .int .i64 0, .int .i64 0, .slice none 0 0, .slice (some ⟨w1.heap.size + 1 + 1 + 1, 0, none⟩) 2 2, .slice (some ⟨w1.heap.size + 1 + 1, 0, none⟩) 2 2] 30 (0, 0))).heap[w1.heap.size + 1 + 1 + 1 + 1]? = some (.cells #[.int .i64 3, .bool false, .int .i64 0, .int .i64 0, .string ⟨#[]⟩, .int .i64 0, .int .i64 0, .slice none 0 0, .slice (some ⟨w1.heap.size + 1 + 1 + 1, 0, none⟩) 2 2, .slice (some ⟨w1.heap.size + 1 + 1, 0, none⟩) 2 2] 30 (0, 0)) := al_at (by simp)
  have z1 := F1.size
  have FX := F1.trans FX
  clear F1
  revert hD hO hS hE hC FX
  generalize (((((w1.alloc (.cells #[.int .i64 8, .int .i64 8] 3 (0, 0))).alloc (.cells #[.int .i64 1, .int .i64 9, .int .i64 4, .slice (some ⟨w1.heap.size, 0, none⟩) 2 2, .int .i64 4, .string ⟨#[84]⟩, .string ⟨#[105]⟩, .string ⟨#[102]⟩, .string ⟨#[]⟩, .int .i64 0, .int .i64 0, .int .i64 0, .int .i64 0, .slice none 0 0] 35 (0, 0))).alloc (.cells #[.int .i64 5, .int .i64 5] 3 (0, 0))).alloc (.cells #[.int .i64 0, .int .i64 2, .int .i64 3, .string ⟨#[97]⟩, .bool false, .int .i64 0, .int .i64 3, .int .i64 2, .string ⟨#[]⟩, .bool true] 59 (0, 0))).alloc (.cells #[.int .i64 3, .bool false, .int .i64 0, .int .i64 0, .string ⟨#[]⟩, .int .i64 0, .int .i64 0, .slice none 0 0, .slice (some ⟨w1.heap.size + 1 + 1 + 1, 0, none⟩) 2 2, .slice (some ⟨w1.heap.size + 1 + 1, 0, none⟩) 2 2] 30 (0, 0))) = X
  intro hD hO hS hE hC FX
  have oD : Ow X (fun k => k = w1.heap.size) 3 eInt (.slice (some ⟨w1.heap.size, 0, none⟩) 2 2) [8, 8] := Ow.row (l := [8, 8]) (c := 2) hD rfl (by decide) (by decide) rfl rfl
  have oS : Ow X (fun k => k = w1.heap.size + 1 + 1) 3 eInt (.slice (some ⟨w1.heap.size + 1 + 1, 0, none⟩) 2 2) [5, 5] := Ow.row (l := [5, 5]) (c := 2) hS rfl (by decide) (by decide) rfl rfl
  have oE : Ow X (fun k => k = w1.heap.size + 1 + 1 + 1) 59 eEl (.slice (some ⟨w1.heap.size + 1 + 1 + 1, 0, none⟩) 2 2) [(0, 2, 3, ⟨#[97]⟩, false), (0, 3, 2, ⟨#[]⟩, true)] := Ow.row (E := eEl) (l := ([(0, 2, 3, ⟨#[97]⟩, false), (0, 3, 2, ⟨#[]⟩, true)] : List El)) (c := 2) hE rfl (by decide) (by decide) rfl rfl
  refine (may_G ⟨RdS.nil _ _, oE.rd, oS.rd⟩).mono ?_
  rintro e w2 ⟨rfl, f2⟩
  have F2 := FX.trans f2
  have C2 := f2.obj hC id
  have O2 := f2.obj hO id
  have D2 := oD.no f2
  have S2 := oS.no f2
  have E2 := oE.no f2
  have HS := f2.obj hS id
  have HE := f2.obj hE id
  have z2 := lt_of_block C2
  obtain ⟨q0, q1, q2, q3, q4, q5, q6, q7, q8, q9⟩ := obj10 C2
  clear FX hD hO hS hE hC oD oS oE f2
  obtain ⟨Z, hZ, hz⟩ : ∃ Z : ByteArray, Hid (Z = ⟨(List.replicate (257 + y) 0).toArray⟩) ∧ Z.size = 257 + y := ⟨_, Lib.hid rfl, by simp [ByteArray.size]⟩
  go_wp2
  refine wp_region_plan [([0, 1, 2, 3], [1]), ([4], [1]), ([5], [1]), ([6, 7, 8], [])] 169 (by kernel_rfl) (by kernel_rfl) (by simp) ?_
  intro N hN
  simp only [wpSegs, List.map_cons, List.map_nil, List.getD_cons_zero, List.getD_cons_succ]
  go_wp2_with (fail)
  first | (refine ⟨(again_cons (again_of rfl rfl ?_) again_nil), ?_⟩) | (refine ⟨again_of rfl rfl ?_, ?_⟩)
  · go_simp
  go_wp2_with (at_make; refine wpList_mk1 _ rfl _ _ 63 rfl 5 (.int .u8 0) 1 Tryz.underlying63 i_u8 rfl _ _ _ _ (257 + y) rfl rfl (by omega) (by omega) (by omega) (by unfold maxLen; omega) ?_)
  intro w9 o9 g9
  have G9 : Frm No w2 w9 := (Frm.drew No w2).trans (grown_no g9)
  have c9 := conv_zeros o9
  rw [← hZ.out] at c9
  replace C2 := G9.obj C2 id
  replace O2 := G9.obj O2 id
  replace HE := G9.obj HE id
  replace D2 := D2.no G9
  replace S2 := S2.no G9
  replace F2 := F2.trans G9
  clear q0 q1 q2 q3 q4 q5 q6 q7 q8 q9 o9 g9 E2 HS z2
  have z2 := lt_of_block C2
  obtain ⟨q0, q1, q2, q3, q4, q5, q6, q7, q8, q9⟩ := obj10 C2
  go_wp2_with (fail)
  first | (refine ⟨(again_cons (again_of rfl rfl ?_) again_nil), ?_⟩) | (refine ⟨again_of rfl rfl ?_, ?_⟩)
  · go_simp
  go_wp2_with (fail)
  first | (refine ⟨(again_cons (again_of rfl rfl ?_) again_nil), ?_⟩) | (refine ⟨again_of rfl rfl ?_, ?_⟩)
  · go_simp
  go_wp2_with (refine wpList_stoC _ rfl (.tmp 117) (.tmp 115) 9 rfl HE (vs := [.string Z]) rfl (by kernel_rfl) (by show 3 + 1 ≤ 10; omega) (by intro u hu; simp at hu; subst hu; rfl) rfl rfl #[.int .i64 0, .int .i64 2, .int .i64 3, .string Z, .bool false, .int .i64 0, .int .i64 3, .int .i64 2, .string ⟨#[]⟩, .bool true] rfl ?_)
  intro w3 H3 f3 z3
  clear q0 q1 q2 q3 q4 q5 q6 q7 q8 q9 
  have F3 := F2.then f3 fun k hk e => by have := z2; omega
  have O3 := f3.obj O2 (by omega)
  have D3 := D2.frm f3 fun k hk e => by omega
  have C3 := f3.obj C2 (by omega)
  have S3 := S2.frm f3 fun k hk e => by omega
  have E3 : Ow w3 (fun k => k = w1.heap.size + 1 + 1 + 1) 59 eEl (.slice (some ⟨w1.heap.size + 1 + 1 + 1, 0, none⟩) 2 2) [(0, 2, 3, Z, false), (0, 3, 2, ⟨#[]⟩, true)] := Ow.row (E := eEl) (l := ([(0, 2, 3, Z, false), (0, 3, 2, ⟨#[]⟩, true)] : List El)) (c := 2) H3 rfl (by show 2 ≤ 2; omega) (by decide) rfl rfl
  clear F2 O2 D2 S2 f3 C2 HE z2 H3 G9 c9 hZ
  obtain ⟨q0, q1, q2, q3, q4, q5, q6, q7, q8, q9⟩ := obj10 C3
  obtain ⟨t0, t1, t2, t3, t4, t5, t6, t7, t8, t9, t10, t11, t12, t13⟩ := obj14 O3
  have hF : ∀ x1 x2 x3, cval (fL Z) x1 x2 x3 = (fun x1 x2 x3 => .agg #[.int .i64 3, .bool false, .int .i64 0, .int .i64 0, .string ⟨#[]⟩, .int .i64 0, .int .i64 0, x1, x2, x3]) x1 x2 x3 := fun x1 x2 x3 => rfl
  have HM := fL_may (s := Z) (by omega)
  have HZ : CellZ (fL Z) := ⟨fG_z.v, fG_z.e, (fun x hx => by simp only [fB, fG, fL, List.mem_cons, List.not_mem_nil, or_false] at hx; rcases hx with rfl | rfl <;> first | (show (1 : Nat) ≤ 2 ^ 63 - 1; omega) | (show (0 : Nat) ≤ 2 ^ 63 - 1; omega) | (show Z.size ≤ 2 ^ 63 - 1; omega))⟩
  go_wp2_with (fail)
  have R3 : CellR w3 (fL Z) (.slice none 0 0) (.slice (some ⟨w1.heap.size + 1 + 1 + 1, 0, none⟩) 2 2) (.slice (some ⟨w1.heap.size + 1 + 1, 0, none⟩) 2 2) := ⟨RdS.nil _ _, E3.rd, S3.rd⟩
  have HB : CellB (fL Z) := ⟨(by show 0 * 32 ≤ _; unfold reachBytes; omega), (by show 2 * 48 ≤ _; unfold reachBytes; omega), (by show 2 * 8 ≤ _; unfold reachBytes; omega)⟩
  refine (apply_no hF HM R3 HB HZ (o := ⟨(1, 9), 4, [8, 8], 4, ⟨#[84]⟩, ⟨#[105]⟩, ⟨#[102]⟩, ⟨#[]⟩, (0, 0), (0, 0), []⟩) ⟨D3.rd, RdS.nil _ _⟩ ⟨by decide, by decide, by decide, by decide⟩).mono ?_
  rintro e w4 ⟨b1, d1, b2, d2, b3, d3, rfl, r4, f4⟩
  have F4 := F3.trans f4
  have R4 := R3.no f4
  have C4 := f4.obj C3 id
  clear F3 R3 C3 O3 D3 S3 E3 f4 q0 q1 q2 q3 q4 q5 q6 q7 q8 q9 t0 t1 t2 t3 t4 t5 t6 t7 t8 t9 t10 t11 t12 t13
  have n4 := lt_of_block C4
  obtain ⟨q0, q1, q2, q3, q4, q5, q6, q7, q8, q9⟩ := obj10 C4
  go_wp2_with (fail)
  have G4 := (Frm.refl No w4).al (.cells #[.int .i64 0, .bool false, .int .i64 0, .int .i64 0, .string ⟨#[]⟩, .int .i64 0, .int .i64 0, .slice b1 0 d1, .slice b2 0 d2, .slice b3 0 d3] 30 (0, 0))
  refine (may_no hF HM (R4.no G4) HZ).mono ?_
  rintro e w5 ⟨rfl, f5⟩
  have Z5 := f5.obj (heap_alloc_new w4 (.cells #[.int .i64 0, .bool false, .int .i64 0, .int .i64 0, .string ⟨#[]⟩, .int .i64 0, .int .i64 0, .slice b1 0 d1, .slice b2 0 d2, .slice b3 0 d3] 30 (0, 0))) id
  have G5 := G4.trans f5
  have F5 := F4.trans G5
  have r5 := r4.no G5
  clear F4 R4 C4 G4 G5 f5 r4 n4 q0 q1 q2 q3 q4 q5 q6 q7 q8 q9
  have n5 := lt_of_block Z5
  obtain ⟨q0, q1, q2, q3, q4, q5, q6, q7, q8, q9⟩ := obj10 Z5
  go_wp2_with (fail)
  refine (sameCell_ok r5 (c := zeroC) (ve' := .slice none 0 0) (vl' := .slice none 0 0) (vs' := .slice none 0 0) ⟨RdS.nil _ _, RdS.nil _ _, RdS.nil _ _⟩).mono ?_
  rintro e w6 ⟨rfl, f6⟩
  go_wp2_with (go_at_call 18; refine (num_ok _ _).mono ?_; rintro e w' ⟨rfl, rfl⟩)
  go_ret
  exact ⟨rfl, F5.trans f6⟩
end Go.Proofs.YtofikfkgiblblaaGreatDoor

/- tattlelaw12.CellForms answers true, for every input. -/
namespace Go.Proofs.YtofikfkgiblblaaGreatDoor
set_option linter.unusedVariables false
set_option linter.unusedSimpArgs false
open Go.RowKit Go.Lib Go.Tt Go.Shelf
theorem lforms_ok {w0 : World} (tab : Tab w0) (which x : Int) :
    Calls Tryz.prog 5 #[.int .i64 which, .int .i64 x] w0 fun e w' => e = .returned (.bool true) ∧ Frm No w0 w' := by
  have hcs : (IntKind.u64.wrap which).tmod 18 = 0 ∨ (IntKind.u64.wrap which).tmod 18 = 1 ∨ (IntKind.u64.wrap which).tmod 18 = 2 ∨ (IntKind.u64.wrap which).tmod 18 = 3 ∨ (IntKind.u64.wrap which).tmod 18 = 4 ∨ (IntKind.u64.wrap which).tmod 18 = 5 ∨ (IntKind.u64.wrap which).tmod 18 = 6 ∨ (IntKind.u64.wrap which).tmod 18 = 7 ∨ (IntKind.u64.wrap which).tmod 18 = 8 ∨ (IntKind.u64.wrap which).tmod 18 = 9 ∨ (IntKind.u64.wrap which).tmod 18 = 10 ∨ (IntKind.u64.wrap which).tmod 18 = 11 ∨ (IntKind.u64.wrap which).tmod 18 = 12 ∨ (IntKind.u64.wrap which).tmod 18 = 13 ∨ (IntKind.u64.wrap which).tmod 18 = 14 ∨ (IntKind.u64.wrap which).tmod 18 = 15 ∨ (IntKind.u64.wrap which).tmod 18 = 16 ∨ (IntKind.u64.wrap which).tmod 18 = 17 := by
    have h : 0 ≤ IntKind.u64.wrap which := by rw [IntKind.wrap_u64]; omega
    rw [Int.tmod_eq_emod_of_nonneg h]; omega
  rcases hcs with hk | hk | hk | hk | hk | hk | hk | hk | hk | hk | hk | hk | hk | hk | hk | hk | hk | hk
  · exact forms0 tab which x hk
  · exact forms1 tab which x hk
  · exact forms2 tab which x hk
  · exact forms3 tab which x hk
  · exact forms4 tab which x hk
  · exact forms5 tab which x hk
  · exact forms6 tab which x hk
  · exact forms7 tab which x hk
  · exact forms8 tab which x hk
  · exact forms9 tab which x hk
  · exact forms10 tab which x hk
  · exact forms11 tab which x hk
  · exact forms12 tab which x hk
  · exact forms13 tab which x hk
  · exact forms14 tab which x hk
  · exact forms15 tab which x hk
  · exact forms16 tab which x hk
  · exact forms17 tab which x hk
end Go.Proofs.YtofikfkgiblblaaGreatDoor

/- CellForms at what the row hands in. -/
namespace Go.Proofs.YtofikfkgiblblaaGreatDoor
set_option linter.unusedVariables false
set_option linter.unusedSimpArgs false
open Go.RowKit Go.Lib Go.Tt Go.WideShapes
theorem lforms_row (w : World) (tab : Tab w) (k : Int) (_ : (Lit.int .i64 k).wf = true) (x : Int) (_ : (Lit.int .i64 x).wf = true) : Calls Tryz.prog 5 #[.int .i64 k, .int .i64 x] w fun e w' => e = .returned (.bool true) ∧ Below w.heap.size w w' :=
  (lforms_ok tab k x).mono fun e w' ⟨he, f⟩ => ⟨he, f.below (fun _ _ h => h) (Nat.le_refl _)⟩
end Go.Proofs.YtofikfkgiblblaaGreatDoor

/- The card of tattlelaw12.CellForms. -/
namespace Go.Proofs.YtofikfkgiblblaaGreatDoor.cellForms
set_option linter.unusedVariables false
set_option linter.unusedSimpArgs false
open Go.ChangeShapes Go.WideShapes Go.ChangeAt Go.RowKit Go.Tt
open Go.ChangeMaps (open_string shut_string)
set_option linter.unusedVariables false
set_option maxRecDepth 100000 in
theorem contract (H : Type) (enc : TypeId × Value → H) (W : World) (base : Nat) (args : Array Value) (ds gs : List (DataW H)) (before : List MemPlace)
    (hval0 : ∀ (j : Nat) t v, Tryz.f5.params[j]? = some t → args[j]? = some v → Value.okWide Tryz.prog W .any base t v)
    (hW : DataW.Whole enc Tryz.prog Tryz.f5.params.toList Rows.cellFormsSpec.vars false W args.toList ds gs before)
    (hsz0 : (DataW.weightsEach Tryz.prog (Tryz.f5.params.toList ++ Rows.cellFormsSpec.plain.varTypes Tryz.prog) (ds ++ gs)).all (· ≤ reachBytes) = true)
    (hL : laidMetH Tryz.prog tabs W) :
    Calls Tryz.prog 5 args W fun e W' => ∃ v, e = .returned v ∧ Rows.cellFormsSpec.post enc Tryz.prog Tryz.f5 false true false false W args v W' := by
  have hval : ∀ (j : Nat) t v, Tryz.f5.params[j]? = some t → args[j]? = some v → Value.okWide Tryz.prog W .any base t v := hval0
  have hW' := hW
  obtain ⟨p, q, hA0, hV, rfl, hfz, hnd⟩ := hW
  have hA : DataW.TrodAll enc Tryz.prog W 0 (fun _ => true) true Tryz.f5.params.toList args.toList ds p := hA0
  rw [Tryz.params5] at hA hval
  have hB := hA
  obtain ⟨v0, vs0, d0, ds0, p0, q0, hargs, rfl, rfl, h0, r0⟩ := trodAll_cons hA
  obtain ⟨v1, vs1, d1, ds1, p1, q1, rfl, rfl, rfl, h1, r1⟩ := trodAll_cons r0
  obtain ⟨rfl, rfl, rfl⟩ := trodAll_nil r1
  obtain rfl : args = #[v0, v1] := by cases args; simp_all
  obtain ⟨rfl, rfl⟩ := trodVars_none hV
  obtain ⟨a0, rfl, e0, _, w0⟩ := open_int Tryz.underlying3 (hval 0 3 v0 rfl rfl) h0
  obtain ⟨a1, rfl, e1, _, w1⟩ := open_int Tryz.underlying3 (hval 1 3 v1 rfl rfl) h1
  refine (lforms_row W (table hL) a0 w0 a1 w1).mono fun e W' ⟨he, bel⟩ => ?_
  subst he
  exact ⟨_, rfl, _, _, _, [], _, [], hW', trodAll_mk1 (shut_bool Tryz.underlying4 _), below_trodAll laidOut bel (by kernel_rfl) hB (trodAll_lt hB), rfl, bel.frame _, fun h => by cases h⟩
theorem laid_met (os : Os) : laidMet Tryz.prog Rows.cellFormsRow.laid ((laidWorld os).forCall (fun _ _ => 0) ⟨#[], #[.int .i64 0, .int .i64 0], []⟩).memory :=
  laidMet_of_run' 8 (by kernel_rfl) (by kernel_rfl)
noncomputable def rdW (os : Os) {H : Type} (enc : TypeId × Value → H) : Option (List (DataW H) × List (DataW H) × List MemPlace) := DataW.whole enc Tryz.prog ((laidWorld os).forCall (fun _ _ => 0) ⟨#[], #[.int .i64 0, .int .i64 0], []⟩).memory Tryz.f5.params.toList Rows.cellFormsSpec.vars false (#[.int .i64 0, .int .i64 0] : Array Value).toList 8
theorem rdW_some (os : Os) {H : Type} (enc : TypeId × Value → H) : (rdW os enc).isSome = true := by kernel_rfl
theorem reads (os : Os) {H : Type} (enc : TypeId × Value → H) : rdW os enc = some (((rdW os enc).get (rdW_some os enc)).1, ((rdW os enc).get (rdW_some os enc)).2.1, ((rdW os enc).get (rdW_some os enc)).2.2) := get_parts (rdW os enc) (rdW_some os enc)
set_option maxRecDepth 100000 in
theorem lifted (os : Os) (started : os.Started) (H : Type) (enc : TypeId × Value → H) (G : Stop.Interp) :
    ReturnsInHanded {} Tryz.checked os 5 .any ((OpenSpec.ofChange Rows.cellFormsSpec).preRow enc Tryz.prog Tryz.f5 Rows.cellFormsRow.domain false Rows.cellFormsRow.laid) (((OpenSpec.ofChange Rows.cellFormsSpec).at G).post enc Tryz.prog Tryz.f5 false true false false) := by
  have hx := reads os enc
  refine returnsInHanded_of_row (C := Tryz.checked) (s := OpenSpec.ofChange Rows.cellFormsSpec) own started (by kernel_rfl) Tryz.func5
    (witness_row_at (enc := enc) (C := Tryz.checked) false (laidWorld os) #[.int .i64 0, .int .i64 0] rfl (by kernel_rfl) (by kernel_rfl) (by kernel_rfl) (OpenSpec.preRow_of_cond 8 hx (by kernel_rfl) (fun k hk => by cases hk) (by kernel_rfl) (laid_met os))) ?_
  intro W base args ds gs before hval hW _ hcond hsz hL _ _
  exact contract H enc W base args ds gs before hval hW hsz hL
theorem said : Rows.CellFormsSaid :=
  OpenClaim.holds_of_cond 5 Tryz.f5 rfl rfl rfl rfl rfl rfl rfl ⟨rfl, rfl, rfl, rfl, rfl⟩ rfl rfl rfl rfl rfl (by kernel_rfl) Tryz.func5 (by kernel_rfl)
    (of_decide_eq_true (by kernel_rfl)) (by unfold Func.isWrapper; first | (rw [if_pos (by decide +kernel)]; kernel_rfl) | (rw [if_neg (by decide +kernel)]; exact ⟨rfl, rfl⟩))
    (fun os started H enc _ G => by rw [OpenClaim.pre_eq_preRow]; exact lifted os started H enc G)
theorem plain (f : FuncId) (fn : Func) (hf : Tryz.pinned.checked.prog.funcNamed "tattle/tattlelaw12.CellForms" = some f) (hfn : Tryz.pinned.checked.prog.funcs[f]? = some fn) :
    false = Tryz.pinned.checked.prog.looks [] ∧ ∀ (j : Nat) t, fn.params[j]? = some t → Tryz.pinned.checked.prog.wantsStandIn t = false := by
  obtain rfl : f = 5 := Option.some.inj ((show Tryz.prog.funcNamed "tattle/tattlelaw12.CellForms" = some 5 by kernel_rfl).symm.trans hf) |>.symm
  obtain rfl : fn = Tryz.f5 := (Option.some.inj (Tryz.func5.symm.trans hfn)).symm
  refine ⟨by kernel_rfl, fun j t ht => ?_⟩
  rw [Tryz.params5] at ht
  have ht := Array.mem_of_getElem? ht
  simp only [List.mem_toArray, List.mem_cons, List.not_mem_nil, or_false] at ht
  rcases ht with rfl | rfl
  · exact (show Tryz.prog.wantsStandIn 3 = false by kernel_rfl)
  · exact (show Tryz.prog.wantsStandIn 3 = false by kernel_rfl)
theorem card : Rows.CellFormsCardSaid :=
  Claim7.holds_tied_plain_at .later [] _ _ _ _ said (fun _ h => by cases h) (by kernel_rfl) (fun _ h => by cases h) cellForms_row_tie rfl ⟨rfl, rfl⟩ (by kernel_rfl) rfl plain (by kernel_rfl)
end Go.Proofs.YtofikfkgiblblaaGreatDoor.cellForms
namespace Go.Proofs.YtofikfkgiblblaaGreatDoor
set_option linter.unusedVariables false
set_option linter.unusedSimpArgs false
/-- The card, under a short name, for the claim. -/
theorem cellForms_holds : Rows.CellFormsCardSaid := cellForms.card
#print axioms cellForms_holds
end Go.Proofs.YtofikfkgiblblaaGreatDoor

/- Merged: FormsB. -/
import Derived.Test.YtofikfkgiblblaaGreatDoorZFormsH
/- tattlelaw12.CellForms: further ways. -/
namespace Go.Proofs.YtofikfkgiblblaaGreatDoor
set_option linter.unusedVariables false
set_option linter.unusedSimpArgs false
set_option linter.unusedVariables false
set_option linter.unusedSimpArgs false
open Go.RowKit Go.Lib Go.Tt Go.Shelf
set_option maxHeartbeats 8000000 in
set_option maxRecDepth 100000 in
theorem forms14 {w0 : World} (tab : Tab w0) (which x : Int) (hk : (IntKind.u64.wrap which).tmod 18 = 14) :
    Calls Tryz.prog 5 #[.int .i64 which, .int .i64 x] w0 fun e w' => e = .returned (.bool true) ∧ Frm No w0 w' := by
  obtain ⟨y, hy, hy1⟩ := mask_nat 63 x _ (and_63 x)
  have HA := Lib.hid (awake_ok tab)
  clear tab
  go_enter Tryz.func5, Tryz.ntmps5
  go_wp2_with (fail)
  refine HA.out.mono ?_
  rintro e w1 ⟨rfl, F1⟩
  clear HA
  go_wp2_with (fail)
  have FX : Frm No w1 (((((w1.alloc (.cells #[.int .i64 8, .int .i64 8] 3 (0, 0))).alloc (.cells #[.int .i64 1, .int .i64 9, .int .i64 4, .slice (some ⟨w1.heap.size, 0, none⟩) 2 2, .int .i64 4, .string ⟨#[84]⟩, .string ⟨#[105]⟩, .string ⟨#[102]⟩, .string ⟨#[]⟩, .int .i64 0, .int .i64 0, .int .i64 0, .int .i64 0, .slice none 0 0] 35 (0, 0))).alloc (.cells #[.int .i64 5, .int .i64 5] 3 (0, 0))).alloc (.cells #[.int .i64 0, .int .i64 2, .int .i64 3, .string ⟨#[97]⟩, .bool false, .int .i64 0, .int .i64 3, .int .i64 2, .string ⟨#[]⟩, .bool true] 59 (0, 0))).alloc (.cells #[.int .i64 3, .bool false, .int .i64 0, .int .i64 0, .string ⟨#[]⟩, .int .i64 0, .int .i64 0, .slice none 0 0, .slice (some ⟨w1.heap.size + 1 + 1 + 1, 0, none⟩) 2 2, .slice (some ⟨w1.heap.size + 1 + 1, 0, none⟩) 2 2] 30 (0, 0))) := (((((Frm.refl No w1).al _).al _).al _).al _).al _
  have hD : (((((w1.alloc (.cells #[.int .i64 8, .int .i64 8] 3 (0, 0))).alloc (.cells #[.int .i64 1, .int .i64 9, .int .i64 4, .slice (some ⟨w1.heap.size, 0, none⟩) 2 2, .int .i64 4, .string ⟨#[84]⟩, .string ⟨#[105]⟩, .string ⟨#[102]⟩, .string ⟨#[]⟩, .int .i64 0, .int .i64 0, .int .i64 0, .int .i64 0, .slice none 0 0] 35 (0, 0))).alloc (.cells #[.int .i64 5, .int .i64 5] 3 (0, 0))).alloc (.cells #[.int .i64 0, .int .i64 2, .int .i64 3, .string ⟨#[97]⟩, .bool false, .int .i64 0, .int .i64 3, .int .i64 2, .string ⟨#[]⟩, .bool true] 59 (0, 0))).alloc (.cells #[.int .i64 3, .bool false, .int .i64 0, .int .i64 0, .string ⟨#[]⟩, .int .i64 0, .int .i64 0, .slice none 0 0, .slice (some ⟨w1.heap.size + 1 + 1 + 1, 0, none⟩) 2 2, .slice (some ⟨w1.heap.size + 1 + 1, 0, none⟩) 2 2] 30 (0, 0))).heap[w1.heap.size]? = some (.cells #[.int .i64 8, .int .i64 8] 3 (0, 0)) := al_old (al_old (al_old (al_old (heap_alloc_new w1 _))))
  have hO : (((((w1.alloc (.cells #[.int .i64 8, .int .i64 8] 3 (0, 0))).alloc (.cells #[.int .i64 1, .int .i64 9, .int .i64 4, .slice (some ⟨w1.heap.size, 0, none⟩) 2 2, .int .i64 4, .string ⟨#[84]⟩, .string ⟨#[105]⟩, .string ⟨#[102]⟩, .string ⟨#[]⟩, .int .i64 0, .int .i64 0, .int .i64 0, .int .i64 0, .slice none 0 0] 35 (0, 0))).alloc (.cells #[.int .i64 5, .int .i64 5] 3 (0, 0))).alloc (.cells #[.int .i64 0, .int .i64 2, .int .i64 3, .string ⟨#[97]⟩, .bool false, .int .i64 0, .int .i64 3, .int .i64 2, .string ⟨#[]⟩, .bool true] 59 (0, 0))).alloc (.cells #[.int .i64 3, .bool false, .int .i64 0, .int .i64 0, .string ⟨#[]⟩, .int .i64 0, .int .i64 0, .slice none 0 0, .slice (some ⟨w1.heap.size + 1 + 1 + 1, 0, none⟩) 2 2, .slice (some ⟨w1.heap.size + 1 + 1, 0, none⟩) 2 2] 30 (0, 0))).heap[w1.heap.size + 1]? = some (.cells #[.int .i64 1, .int .i64 9, .int .i64 4, .slice (some ⟨w1.heap.size, 0, none⟩) 2 2, .int .i64 4, .string ⟨#[84]⟩, .string ⟨#[105]⟩, .string ⟨#[102]⟩, .string ⟨#[]⟩, .int .i64 0, .int .i64 0, .int .i64 0, .int .i64 0, .slice none 0 0] 35 (0, 0)) := al_old (al_old (al_old (al_at (by simp))))
  have hS : (((((w1.alloc (.cells #[.int .i64 8, .int .i64 8] 3 (0, 0))).alloc (.cells #[.int .i64 1, .int .i64 9, .int .i64 4, .slice (some ⟨w1.heap.size, 0, none⟩) 2 2, .int .i64 4, .string ⟨#[84]⟩, .string ⟨#[105]⟩, .string ⟨#[102]⟩, .string ⟨#[]⟩, .int .i64 0, .int .i64 0, .int .i64 0, .int .i64 0, .slice none 0 0] 35 (0, 0))).alloc (.cells #[.int .i64 5, .int .i64 5] 3 (0, 0))).alloc (.cells #[.int .i64 0, .int .i64 2, .int .i64 3, .string ⟨#[97]⟩, .bool false, .int .i64 0, .int .i64 3, .int .i64 2, .string ⟨#[]⟩, .bool true] 59 (0, 0))).alloc (.cells #[.int .i64 3, .bool false, .int .i64 0, .int .i64 0, .string ⟨#[]⟩, .int .i64 0, .int .i64 0, .slice none 0 0, .slice (some ⟨w1.heap.size + 1 + 1 + 1, 0, none⟩) 2 2, .slice (some ⟨w1.heap.size + 1 + 1, 0, none⟩) 2 2] 30 (0, 0))).heap[w1.heap.size + 1 + 1]? = some (.cells #[.int .i64 5, .int .i64 5] 3 (0, 0)) := al_old (al_old (al_at (by simp)))
  have hE : (((((w1.alloc (.cells #[.int .i64 8, .int .i64 8] 3 (0, 0))).alloc (.cells #[.int .i64 1, .int .i64 9, .int .i64 4, .slice (some ⟨w1.heap.size, 0, none⟩) 2 2, .int .i64 4, .string ⟨#[84]⟩, .string ⟨#[105]⟩, .string ⟨#[102]⟩, .string ⟨#[]⟩, .int .i64 0, .int .i64 0, .int .i64 0, .int .i64 0, .slice none 0 0] 35 (0, 0))).alloc (.cells #[.int .i64 5, .int .i64 5] 3 (0, 0))).alloc (.cells #[.int .i64 0, .int .i64 2, .int .i64 3, .string ⟨#[97]⟩, .bool false, .int .i64 0, .int .i64 3, .int .i64 2, .string ⟨#[]⟩, .bool true] 59 (0, 0))).alloc (.cells #[.int .i64 3, .bool false, .int .i64 0, .int .i64 0, .string ⟨#[]⟩, .int .i64 0, .int .i64 0, .slice none 0 0, .slice (some ⟨w1.heap.size + 1 + 1 + 1, 0, none⟩) 2 2, .slice (some ⟨w1.heap.size + 1 + 1, 0, none⟩) 2 2] 30 (0, 0))).heap[w1.heap.size + 1 + 1 + 1]? = some (.cells #[.int .i64 0, .int .i64 2, .int .i64 3, .string ⟨#[97]⟩, .bool false, .int .i64 0, .int .i64 3, .int .i64 2, .string ⟨#[]⟩, .bool true] 59 (0, 0)) := al_old (al_at (by simp))
  have hC : (((((w1.alloc (.cells #[.int .i64 8, .int .i64 8] 3 (0, 0))).alloc (.cells #[.int .i64 1, .int .i64 9, .int .i64 4, .slice (some ⟨w1.heap.size, 0, none⟩) 2 2, .int .i64 4, .string ⟨#[84]⟩, .string ⟨#[105]⟩, .string ⟨#[102]⟩, .string ⟨#[]⟩, .int .i64 0, .int .i64 0, .int .i64 0, .int .i64 0, .slice none 0 0] 35 (0, 0))).alloc (.cells #[.int .i64 5, .int .i64 5] 3 (0, 0))).alloc (.cells #[.int .i64 0, .int .i64 2, .int .i64 3, .string ⟨#[97]⟩, .bool false, .int .i64 0, .int .i64 3, .int .i64 2, .string ⟨#[]⟩, .bool true] 59 (0, 0))).alloc (.cells #[.int .i64 3, .bool false, .int .i64 0, .int .i64 0, .string ⟨#[]⟩, .int .i64 0, .int .i64 0, .slice none 0 0, .slice (some ⟨w1.heap.size + 1 + 1 + 1, 0, none⟩) 2 2, .slice (some ⟨w1.heap.size + 1 + 1, 0, none⟩) 2 2] 30 (0, 0))).heap[w1.heap.size + 1 + 1 + 1 + 1]? = some (.cells #[.int .i64 3, .bool false, .int .i64 0, .int .i64 0, .string ⟨#[]⟩, .int .i64 0, .int .i64 0, .slice none 0 0, .slice (some ⟨w1.heap.size + 1 + 1 + 1, 0, none⟩) 2 2, .slice (some ⟨w1.heap.size + 1 + 1, 0, none⟩) 2 2] 30 (0, 0)) := al_at (by simp)
  have z1 := F1.size
  have FX := F1.trans FX
  clear F1
  revert hD hO hS hE hC FX
  generalize (((((w1.alloc (.cells #[.int .i64 8, .int .i64 8] 3 (0, 0))).alloc (.cells #[.int .i64 1, .int .i64 9, .int .i64 4, .slice (some ⟨w1.heap.size, 0, none⟩) 2 2, .int .i64 4, .string ⟨#[84]⟩, .string ⟨#[105]⟩, .string ⟨#[102]⟩, .string ⟨#[]⟩, .int .i64 0, .int .i64 0, .int .i64 0, .int .i64 0, .slice none 0 0] 35 (0, 0))).alloc (.cells #[.int .i64 5, .int .i64 5] 3 (0, 0))).alloc (.cells #[.int .i64 0, .int .i64 2, .int .i64 3, .string ⟨#[97]⟩, .bool false, .int .i64 0, .int .i64 3, .int .i64 2, .string ⟨#[]⟩, .bool true] 59 (0, 0))).alloc (.cells #[.int .i64 3, .bool false, .int .i64 0, .int .i64 0, .string ⟨#[]⟩, .int .i64 0, .int .i64 0, .slice none 0 0, .slice (some ⟨w1.heap.size + 1 + 1 + 1, 0, none⟩) 2 2, .slice (some ⟨w1.heap.size + 1 + 1, 0, none⟩) 2 2] 30 (0, 0))) = X
  intro hD hO hS hE hC FX
  have oD : Ow X (fun k => k = w1.heap.size) 3 eInt (.slice (some ⟨w1.heap.size, 0, none⟩) 2 2) [8, 8] := Ow.row (l := [8, 8]) (c := 2) hD rfl (by decide) (by decide) rfl rfl
  have oS : Ow X (fun k => k = w1.heap.size + 1 + 1) 3 eInt (.slice (some ⟨w1.heap.size + 1 + 1, 0, none⟩) 2 2) [5, 5] := Ow.row (l := [5, 5]) (c := 2) hS rfl (by decide) (by decide) rfl rfl
  have oE : Ow X (fun k => k = w1.heap.size + 1 + 1 + 1) 59 eEl (.slice (some ⟨w1.heap.size + 1 + 1 + 1, 0, none⟩) 2 2) [(0, 2, 3, ⟨#[97]⟩, false), (0, 3, 2, ⟨#[]⟩, true)] := Ow.row (E := eEl) (l := ([(0, 2, 3, ⟨#[97]⟩, false), (0, 3, 2, ⟨#[]⟩, true)] : List El)) (c := 2) hE rfl (by decide) (by decide) rfl rfl
  refine (may_G ⟨RdS.nil _ _, oE.rd, oS.rd⟩).mono ?_
  rintro e w2 ⟨rfl, f2⟩
  have F2 := FX.trans f2
  have C2 := f2.obj hC id
  have O2 := f2.obj hO id
  have D2 := oD.no f2
  have S2 := oS.no f2
  have E2 := oE.no f2
  clear FX hD hO hS hE hC oD oS oE f2
  have z2 := lt_of_block C2
  have n2 : w1.heap.size + 1 + 1 + 1 + 1 < w2.heap.size + 1 := by omega
  go_wp2_with (refine wpList_sto _ rfl (.tmp 7) (.tmp 133) 30 rfl (al_old C2) (by kernel_rfl) (by rfl) (vs := [.int .i64 1, .bool false, .int .i64 0, .int .i64 0, .string ⟨#[]⟩, .int .i64 0, .int .i64 (4503599627370496 + (1 + (y : Int))), .slice none 0 0, .slice none 0 0, .slice (some ⟨w2.heap.size, 0, none⟩) 2 2]) (by intro u hu; simp only [List.mem_cons, List.not_mem_nil, or_false] at hu; rcases hu with rfl | rfl | rfl | rfl | rfl | rfl | rfl | rfl | rfl | rfl <;> rfl) rfl rfl ?_)
  intro w3 C3 f3 z3
  have N2 := heap_alloc_new w2 (.cells #[.int .i64 5, .int .i64 5] 3 (0, 0))
  have oN : Ow (w2.alloc (.cells #[.int .i64 5, .int .i64 5] 3 (0, 0))) (fun k => k = w2.heap.size) 3 eInt (.slice (some ⟨w2.heap.size, 0, none⟩) 2 2) [5, 5] := Ow.row (l := [5, 5]) (c := 2) N2 rfl (by decide) (by decide) rfl rfl
  have F3 := (F2.al (.cells #[.int .i64 5, .int .i64 5] 3 (0, 0))).then f3 fun k hk e => by have := lt_of_block C2; omega
  have O3 := f3.obj (al_old O2) (by omega)
  have D3 := (D2.al (.cells #[.int .i64 5, .int .i64 5] 3 (0, 0))).frm f3 fun k hk e => by omega
  have S3 := oN.frm f3 fun k hk e => by omega
  clear F2 O2 D2 S2 E2 f3 C2 N2 oN z2 n2
  obtain ⟨q0, q1, q2, q3, q4, q5, q6, q7, q8, q9⟩ := obj10 C3
  obtain ⟨t0, t1, t2, t3, t4, t5, t6, t7, t8, t9, t10, t11, t12, t13⟩ := obj14 O3
  have hF : ∀ x1 x2 x3, cval (fB 14 (y + 1)) x1 x2 x3 = (fun x1 x2 x3 => .agg #[.int .i64 1, .bool false, .int .i64 0, .int .i64 0, .string ⟨#[]⟩, .int .i64 0, .int .i64 (4503599627370496 + (1 + (y : Int))), x1, x2, x3]) x1 x2 x3 := fun x1 x2 x3 => by
    have : ((y + 1 : Nat) : Int) = 1 + (y : Int) := by omega
    show Value.agg #[.int .i64 1, .bool false, .int .i64 0, .int .i64 0, .string ⟨#[]⟩, .int .i64 0, .int .i64 (4503599627370496 + ((y + 1 : Nat) : Int)), x1, x2, x3] = _
    rw [this]
  have HM := fB_may ⟨14, by omega⟩ ⟨y, by omega⟩ (by show (14 : Nat) ≠ 12; decide)
  have HZ : CellZ (fB 14 (y + 1)) := ⟨fG_z.v, (fun x hx => by cases hx), (fun x hx => by cases hx)⟩
  go_wp2_with (fail)
  have R3 : CellR w3 (fB 14 (y + 1)) (.slice none 0 0) (.slice none 0 0) (.slice (some ⟨w2.heap.size, 0, none⟩) 2 2) := ⟨RdS.nil _ _, RdS.nil _ _, S3.rd⟩
  have HB : CellB (fB 14 (y + 1)) := ⟨(by show 0 * 32 ≤ _; unfold reachBytes; omega), (by show 0 * 48 ≤ _; unfold reachBytes; omega), (by show 2 * 8 ≤ _; unfold reachBytes; omega)⟩
  refine (apply_no hF HM R3 HB HZ (o := ⟨(1, 9), 4, [8, 8], 4, ⟨#[84]⟩, ⟨#[105]⟩, ⟨#[102]⟩, ⟨#[]⟩, (0, 0), (0, 0), []⟩) ⟨D3.rd, RdS.nil _ _⟩ ⟨by decide, by decide, by decide, by decide⟩).mono ?_
  rintro e w4 ⟨b1, d1, b2, d2, b3, d3, rfl, r4, f4⟩
  have F4 := F3.trans f4
  have R4 := R3.no f4
  have C4 := f4.obj C3 id
  clear F3 R3 C3 O3 D3 S3 f4 q0 q1 q2 q3 q4 q5 q6 q7 q8 q9 t0 t1 t2 t3 t4 t5 t6 t7 t8 t9 t10 t11 t12 t13
  have n4 := lt_of_block C4
  obtain ⟨q0, q1, q2, q3, q4, q5, q6, q7, q8, q9⟩ := obj10 C4
  go_wp2_with (fail)
  have G4 := (Frm.refl No w4).al (.cells #[.int .i64 0, .bool false, .int .i64 0, .int .i64 0, .string ⟨#[]⟩, .int .i64 0, .int .i64 0, .slice b1 0 d1, .slice b2 0 d2, .slice b3 0 d3] 30 (0, 0))
  refine (may_no hF HM (R4.no G4) HZ).mono ?_
  rintro e w5 ⟨rfl, f5⟩
  have Z5 := f5.obj (heap_alloc_new w4 (.cells #[.int .i64 0, .bool false, .int .i64 0, .int .i64 0, .string ⟨#[]⟩, .int .i64 0, .int .i64 0, .slice b1 0 d1, .slice b2 0 d2, .slice b3 0 d3] 30 (0, 0))) id
  have G5 := G4.trans f5
  have F5 := F4.trans G5
  have r5 := r4.no G5
  clear F4 R4 C4 G4 G5 f5 r4 n4 q0 q1 q2 q3 q4 q5 q6 q7 q8 q9
  have n5 := lt_of_block Z5
  obtain ⟨q0, q1, q2, q3, q4, q5, q6, q7, q8, q9⟩ := obj10 Z5
  go_wp2_with (fail)
  refine (sameCell_ok r5 (c := zeroC) (ve' := .slice none 0 0) (vl' := .slice none 0 0) (vs' := .slice none 0 0) ⟨RdS.nil _ _, RdS.nil _ _, RdS.nil _ _⟩).mono ?_
  rintro e w6 ⟨rfl, f6⟩
  go_wp2_with (go_at_call 18; refine (num_ok _ _).mono ?_; rintro e w' ⟨rfl, rfl⟩)
  go_ret
  exact ⟨rfl, F5.trans f6⟩
set_option maxHeartbeats 8000000 in
set_option maxRecDepth 100000 in
theorem forms15 {w0 : World} (tab : Tab w0) (which x : Int) (hk : (IntKind.u64.wrap which).tmod 18 = 15) :
    Calls Tryz.prog 5 #[.int .i64 which, .int .i64 x] w0 fun e w' => e = .returned (.bool true) ∧ Frm No w0 w' := by
  obtain ⟨y, hy, hy1⟩ := mask_nat 63 x _ (and_63 x)
  have HA := Lib.hid (awake_ok tab)
  clear tab
  go_enter Tryz.func5, Tryz.ntmps5
  go_wp2_with (fail)
  refine HA.out.mono ?_
  rintro e w1 ⟨rfl, F1⟩
  clear HA
  go_wp2_with (fail)
  have FX : Frm No w1 (((((w1.alloc (.cells #[.int .i64 8, .int .i64 8] 3 (0, 0))).alloc (.cells #[.int .i64 1, .int .i64 9, .int .i64 4, .slice (some ⟨w1.heap.size, 0, none⟩) 2 2, .int .i64 4, .string ⟨#[84]⟩, .string ⟨#[105]⟩, .string ⟨#[102]⟩, .string ⟨#[]⟩, .int .i64 0, .int .i64 0, .int .i64 0, .int .i64 0, .slice none 0 0] 35 (0, 0))).alloc (.cells #[.int .i64 5, .int .i64 5] 3 (0, 0))).alloc (.cells #[.int .i64 0, .int .i64 2, .int .i64 3, .string ⟨#[97]⟩, .bool false, .int .i64 0, .int .i64 3, .int .i64 2, .string ⟨#[]⟩, .bool true] 59 (0, 0))).alloc (.cells #[.int .i64 3, .bool false, .int .i64 0, .int .i64 0, .string ⟨#[]⟩, .int .i64 0, .int .i64 0, .slice none 0 0, .slice (some ⟨w1.heap.size + 1 + 1 + 1, 0, none⟩) 2 2, .slice (some ⟨w1.heap.size + 1 + 1, 0, none⟩) 2 2] 30 (0, 0))) := (((((Frm.refl No w1).al _).al _).al _).al _).al _
  have hD : (((((w1.alloc (.cells #[.int .i64 8, .int .i64 8] 3 (0, 0))).alloc (.cells #[.int .i64 1, .int .i64 9, .int .i64 4, .slice (some ⟨w1.heap.size, 0, none⟩) 2 2, .int .i64 4, .string ⟨#[84]⟩, .string ⟨#[105]⟩, .string ⟨#[102]⟩, .string ⟨#[]⟩, .int .i64 0, .int .i64 0, .int .i64 0, .int .i64 0, .slice none 0 0] 35 (0, 0))).alloc (.cells #[.int .i64 5, .int .i64 5] 3 (0, 0))).alloc (.cells #[.int .i64 0, .int .i64 2, .int .i64 3, .string ⟨#[97]⟩, .bool false, .int .i64 0, .int .i64 3, .int .i64 2, .string ⟨#[]⟩, .bool true] 59 (0, 0))).alloc (.cells #[.int .i64 3, .bool false, .int .i64 0, .int .i64 0, .string ⟨#[]⟩, .int .i64 0, .int .i64 0, .slice none 0 0, .slice (some ⟨w1.heap.size + 1 + 1 + 1, 0, none⟩) 2 2, .slice (some ⟨w1.heap.size + 1 + 1, 0, none⟩) 2 2] 30 (0, 0))).heap[w1.heap.size]? = some (.cells #[.int .i64 8, .int .i64 8] 3 (0, 0)) := al_old (al_old (al_old (al_old (heap_alloc_new w1 _))))
  have hO : (((((w1.alloc (.cells #[.int .i64 8, .int .i64 8] 3 (0, 0))).alloc (.cells #[.int .i64 1, .int .i64 9, .int .i64 4, .slice (some ⟨w1.heap.size, 0, none⟩) 2 2, .int .i64 4, .string ⟨#[84]⟩, .string ⟨#[105]⟩, .string ⟨#[102]⟩, .string ⟨#[]⟩, .int .i64 0, .int .i64 0, .int .i64 0, .int .i64 0, .slice none 0 0] 35 (0, 0))).alloc (.cells #[.int .i64 5, .int .i64 5] 3 (0, 0))).alloc (.cells #[.int .i64 0, .int .i64 2, .int .i64 3, .string ⟨#[97]⟩, .bool false, .int .i64 0, .int .i64 3, .int .i64 2, .string ⟨#[]⟩, .bool true] 59 (0, 0))).alloc (.cells #[.int .i64 3, .bool false, .int .i64 0, .int .i64 0, .string ⟨#[]⟩, .int .i64 0, .int .i64 0, .slice none 0 0, .slice (some ⟨w1.heap.size + 1 + 1 + 1, 0, none⟩) 2 2, .slice (some ⟨w1.heap.size + 1 + 1, 0, none⟩) 2 2] 30 (0, 0))).heap[w1.heap.size + 1]? = some (.cells #[.int .i64 1, .int .i64 9, .int .i64 4, .slice (some ⟨w1.heap.size, 0, none⟩) 2 2, .int .i64 4, .string ⟨#[84]⟩, .string ⟨#[105]⟩, .string ⟨#[102]⟩, .string ⟨#[]⟩, .int .i64 0, .int .i64 0, .int .i64 0, .int .i64 0, .slice none 0 0] 35 (0, 0)) := al_old (al_old (al_old (al_at (by simp))))
  have hS : (((((w1.alloc (.cells #[.int .i64 8, .int .i64 8] 3 (0, 0))).alloc (.cells #[.int .i64 1, .int .i64 9, .int .i64 4, .slice (some ⟨w1.heap.size, 0, none⟩) 2 2, .int .i64 4, .string ⟨#[84]⟩, .string ⟨#[105]⟩, .string ⟨#[102]⟩, .string ⟨#[]⟩, .int .i64 0, .int .i64 0, .int .i64 0, .int .i64 0, .slice none 0 0] 35 (0, 0))).alloc (.cells #[.int .i64 5, .int .i64 5] 3 (0, 0))).alloc (.cells #[.int .i64 0, .int .i64 2, .int .i64 3, .string ⟨#[97]⟩, .bool false, .int .i64 0, .int .i64 3, .int .i64 2, .string ⟨#[]⟩, .bool true] 59 (0, 0))).alloc (.cells #[.int .i64 3, .bool false, .int .i64 0, .int .i64 0, .string ⟨#[]⟩, .int .i64 0, .int .i64 0, .slice none 0 0, .slice (some ⟨w1.heap.size + 1 + 1 + 1, 0, none⟩) 2 2, .slice (some ⟨w1.heap.size + 1 + 1, 0, none⟩) 2 2] 30 (0, 0))).heap[w1.heap.size + 1 + 1]? = some (.cells #[.int .i64 5, .int .i64 5] 3 (0, 0)) := al_old (al_old (al_at (by simp)))
  have hE : (((((w1.alloc (.cells #[.int .i64 8, .int .i64 8] 3 (0, 0))).alloc (.cells #[.int .i64 1, .int .i64 9, .int .i64 4, .slice (some ⟨w1.heap.size, 0, none⟩) 2 2, .int .i64 4, .string ⟨#[84]⟩, .string ⟨#[105]⟩, .string ⟨#[102]⟩, .string ⟨#[]⟩, .int .i64 0, .int .i64 0, .int .i64 0, .int .i64 0, .slice none 0 0] 35 (0, 0))).alloc (.cells #[.int .i64 5, .int .i64 5] 3 (0, 0))).alloc (.cells #[.int .i64 0, .int .i64 2, .int .i64 3, .string ⟨#[97]⟩, .bool false, .int .i64 0, .int .i64 3, .int .i64 2, .string ⟨#[]⟩, .bool true] 59 (0, 0))).alloc (.cells #[.int .i64 3, .bool false, .int .i64 0, .int .i64 0, .string ⟨#[]⟩, .int .i64 0, .int .i64 0, .slice none 0 0, .slice (some ⟨w1.heap.size + 1 + 1 + 1, 0, none⟩) 2 2, .slice (some ⟨w1.heap.size + 1 + 1, 0, none⟩) 2 2] 30 (0, 0))).heap[w1.heap.size + 1 + 1 + 1]? = some (.cells #[.int .i64 0, .int .i64 2, .int .i64 3, .string ⟨#[97]⟩, .bool false, .int .i64 0, .int .i64 3, .int .i64 2, .string ⟨#[]⟩, .bool true] 59 (0, 0)) := al_old (al_at (by simp))
  have hC : (((((w1.alloc (.cells #[.int .i64 8, .int .i64 8] 3 (0, 0))).alloc (.cells #[.int .i64 1, .int .i64 9, .int .i64 4, .slice (some ⟨w1.heap.size, 0, none⟩) 2 2, .int .i64 4, .string ⟨#[84]⟩, .string ⟨#[105]⟩, .string ⟨#[102]⟩, .string ⟨#[]⟩, .int .i64 0, .int .i64 0, .int .i64 0, .int .i64 0, .slice none 0 0] 35 (0, 0))).alloc (.cells #[.int .i64 5, .int .i64 5] 3 (0, 0))).alloc (.cells #[.int .i64 0, .int .i64 2, .int .i64 3, .string ⟨#[97]⟩, .bool false, .int .i64 0, .int .i64 3, .int .i64 2, .string ⟨#[]⟩, .bool true] 59 (0, 0))).alloc (.cells #[.int .i64 3, .bool false, .int .i64 0, .int .i64 0, .string ⟨#[]⟩, .int .i64 0, .int .i64 0, .slice none 0 0, .slice (some ⟨w1.heap.size + 1 + 1 + 1, 0, none⟩) 2 2, .slice (some ⟨w1.heap.size + 1 + 1, 0, none⟩) 2 2] 30 (0, 0))).heap[w1.heap.size + 1 + 1 + 1 + 1]? = some (.cells #[.int .i64 3, .bool false, .int .i64 0, .int .i64 0, .string ⟨#[]⟩, .int .i64 0, .int .i64 0, .slice none 0 0, .slice (some ⟨w1.heap.size + 1 + 1 + 1, 0, none⟩) 2 2, .slice (some ⟨w1.heap.size + 1 + 1, 0, none⟩) 2 2] 30 (0, 0)) := al_at (by simp)
  have z1 := F1.size
  have FX := F1.trans FX
  clear F1
  revert hD hO hS hE hC FX
  generalize (((((w1.alloc (.cells #[.int .i64 8, .int .i64 8] 3 (0, 0))).alloc (.cells #[.int .i64 1, .int .i64 9, .int .i64 4, .slice (some ⟨w1.heap.size, 0, none⟩) 2 2, .int .i64 4, .string ⟨#[84]⟩, .string ⟨#[105]⟩, .string ⟨#[102]⟩, .string ⟨#[]⟩, .int .i64 0, .int .i64 0, .int .i64 0, .int .i64 0, .slice none 0 0] 35 (0, 0))).alloc (.cells #[.int .i64 5, .int .i64 5] 3 (0, 0))).alloc (.cells #[.int .i64 0, .int .i64 2, .int .i64 3, .string ⟨#[97]⟩, .bool false, .int .i64 0, .int .i64 3, .int .i64 2, .string ⟨#[]⟩, .bool true] 59 (0, 0))).alloc (.cells #[.int .i64 3, .bool false, .int .i64 0, .int .i64 0, .string ⟨#[]⟩, .int .i64 0, .int .i64 0, .slice none 0 0, .slice (some ⟨w1.heap.size + 1 + 1 + 1, 0, none⟩) 2 2, .slice (some ⟨w1.heap.size + 1 + 1, 0, none⟩) 2 2] 30 (0, 0))) = X
  intro hD hO hS hE hC FX
  have oD : Ow X (fun k => k = w1.heap.size) 3 eInt (.slice (some ⟨w1.heap.size, 0, none⟩) 2 2) [8, 8] := Ow.row (l := [8, 8]) (c := 2) hD rfl (by decide) (by decide) rfl rfl
  have oS : Ow X (fun k => k = w1.heap.size + 1 + 1) 3 eInt (.slice (some ⟨w1.heap.size + 1 + 1, 0, none⟩) 2 2) [5, 5] := Ow.row (l := [5, 5]) (c := 2) hS rfl (by decide) (by decide) rfl rfl
  have oE : Ow X (fun k => k = w1.heap.size + 1 + 1 + 1) 59 eEl (.slice (some ⟨w1.heap.size + 1 + 1 + 1, 0, none⟩) 2 2) [(0, 2, 3, ⟨#[97]⟩, false), (0, 3, 2, ⟨#[]⟩, true)] := Ow.row (E := eEl) (l := ([(0, 2, 3, ⟨#[97]⟩, false), (0, 3, 2, ⟨#[]⟩, true)] : List El)) (c := 2) hE rfl (by decide) (by decide) rfl rfl
  refine (may_G ⟨RdS.nil _ _, oE.rd, oS.rd⟩).mono ?_
  rintro e w2 ⟨rfl, f2⟩
  have F2 := FX.trans f2
  have C2 := f2.obj hC id
  have O2 := f2.obj hO id
  have D2 := oD.no f2
  have S2 := oS.no f2
  have E2 := oE.no f2
  clear FX hD hO hS hE hC oD oS oE f2
  have z2 := lt_of_block C2
  have n2 : w1.heap.size + 1 + 1 + 1 + 1 < w2.heap.size + 1 := by omega
  go_wp2_with (refine wpList_sto _ rfl (.tmp 7) (.tmp 139) 30 rfl (al_old C2) (by kernel_rfl) (by rfl) (vs := [.int .i64 0, .bool false, .int .i64 (1 + (y : Int)), .int .i64 0, .string ⟨#[]⟩, .int .i64 0, .int .i64 0, .slice none 0 0, .slice none 0 0, .slice (some ⟨w2.heap.size, 0, none⟩) 2 2]) (by intro u hu; simp only [List.mem_cons, List.not_mem_nil, or_false] at hu; rcases hu with rfl | rfl | rfl | rfl | rfl | rfl | rfl | rfl | rfl | rfl <;> rfl) rfl rfl ?_)
  intro w3 C3 f3 z3
  have N2 := heap_alloc_new w2 (.cells #[.int .i64 5, .int .i64 5] 3 (0, 0))
  have oN : Ow (w2.alloc (.cells #[.int .i64 5, .int .i64 5] 3 (0, 0))) (fun k => k = w2.heap.size) 3 eInt (.slice (some ⟨w2.heap.size, 0, none⟩) 2 2) [5, 5] := Ow.row (l := [5, 5]) (c := 2) N2 rfl (by decide) (by decide) rfl rfl
  have F3 := (F2.al (.cells #[.int .i64 5, .int .i64 5] 3 (0, 0))).then f3 fun k hk e => by have := lt_of_block C2; omega
  have O3 := f3.obj (al_old O2) (by omega)
  have D3 := (D2.al (.cells #[.int .i64 5, .int .i64 5] 3 (0, 0))).frm f3 fun k hk e => by omega
  have S3 := oN.frm f3 fun k hk e => by omega
  clear F2 O2 D2 S2 E2 f3 C2 N2 oN z2 n2
  obtain ⟨q0, q1, q2, q3, q4, q5, q6, q7, q8, q9⟩ := obj10 C3
  obtain ⟨t0, t1, t2, t3, t4, t5, t6, t7, t8, t9, t10, t11, t12, t13⟩ := obj14 O3
  have hF : ∀ x1 x2 x3, cval (fB 15 (y + 1)) x1 x2 x3 = (fun x1 x2 x3 => .agg #[.int .i64 0, .bool false, .int .i64 (1 + (y : Int)), .int .i64 0, .string ⟨#[]⟩, .int .i64 0, .int .i64 0, x1, x2, x3]) x1 x2 x3 := fun x1 x2 x3 => by
    have : ((y + 1 : Nat) : Int) = 1 + (y : Int) := by omega
    show Value.agg #[.int .i64 0, .bool false, .int .i64 ((y + 1 : Nat) : Int), .int .i64 0, .string ⟨#[]⟩, .int .i64 0, .int .i64 0, x1, x2, x3] = _
    rw [this]
  have HM := fB_may ⟨15, by omega⟩ ⟨y, by omega⟩ (by show (15 : Nat) ≠ 12; decide)
  have HZ : CellZ (fB 15 (y + 1)) := ⟨fG_z.v, (fun x hx => by cases hx), (fun x hx => by cases hx)⟩
  go_wp2_with (fail)
  have R3 : CellR w3 (fB 15 (y + 1)) (.slice none 0 0) (.slice none 0 0) (.slice (some ⟨w2.heap.size, 0, none⟩) 2 2) := ⟨RdS.nil _ _, RdS.nil _ _, S3.rd⟩
  have HB : CellB (fB 15 (y + 1)) := ⟨(by show 0 * 32 ≤ _; unfold reachBytes; omega), (by show 0 * 48 ≤ _; unfold reachBytes; omega), (by show 2 * 8 ≤ _; unfold reachBytes; omega)⟩
  refine (apply_no hF HM R3 HB HZ (o := ⟨(1, 9), 4, [8, 8], 4, ⟨#[84]⟩, ⟨#[105]⟩, ⟨#[102]⟩, ⟨#[]⟩, (0, 0), (0, 0), []⟩) ⟨D3.rd, RdS.nil _ _⟩ ⟨by decide, by decide, by decide, by decide⟩).mono ?_
  rintro e w4 ⟨b1, d1, b2, d2, b3, d3, rfl, r4, f4⟩
  have F4 := F3.trans f4
  have R4 := R3.no f4
  have C4 := f4.obj C3 id
  clear F3 R3 C3 O3 D3 S3 f4 q0 q1 q2 q3 q4 q5 q6 q7 q8 q9 t0 t1 t2 t3 t4 t5 t6 t7 t8 t9 t10 t11 t12 t13
  have n4 := lt_of_block C4
  obtain ⟨q0, q1, q2, q3, q4, q5, q6, q7, q8, q9⟩ := obj10 C4
  go_wp2_with (fail)
  have G4 := (Frm.refl No w4).al (.cells #[.int .i64 0, .bool false, .int .i64 0, .int .i64 0, .string ⟨#[]⟩, .int .i64 0, .int .i64 0, .slice b1 0 d1, .slice b2 0 d2, .slice b3 0 d3] 30 (0, 0))
  refine (may_no hF HM (R4.no G4) HZ).mono ?_
  rintro e w5 ⟨rfl, f5⟩
  have Z5 := f5.obj (heap_alloc_new w4 (.cells #[.int .i64 0, .bool false, .int .i64 0, .int .i64 0, .string ⟨#[]⟩, .int .i64 0, .int .i64 0, .slice b1 0 d1, .slice b2 0 d2, .slice b3 0 d3] 30 (0, 0))) id
  have G5 := G4.trans f5
  have F5 := F4.trans G5
  have r5 := r4.no G5
  clear F4 R4 C4 G4 G5 f5 r4 n4 q0 q1 q2 q3 q4 q5 q6 q7 q8 q9
  have n5 := lt_of_block Z5
  obtain ⟨q0, q1, q2, q3, q4, q5, q6, q7, q8, q9⟩ := obj10 Z5
  go_wp2_with (fail)
  refine (sameCell_ok r5 (c := zeroC) (ve' := .slice none 0 0) (vl' := .slice none 0 0) (vs' := .slice none 0 0) ⟨RdS.nil _ _, RdS.nil _ _, RdS.nil _ _⟩).mono ?_
  rintro e w6 ⟨rfl, f6⟩
  go_wp2_with (go_at_call 18; refine (num_ok _ _).mono ?_; rintro e w' ⟨rfl, rfl⟩)
  go_ret
  exact ⟨rfl, F5.trans f6⟩
set_option maxHeartbeats 8000000 in
set_option maxRecDepth 100000 in
theorem forms16 {w0 : World} (tab : Tab w0) (which x : Int) (hk : (IntKind.u64.wrap which).tmod 18 = 16) :
    Calls Tryz.prog 5 #[.int .i64 which, .int .i64 x] w0 fun e w' => e = .returned (.bool true) ∧ Frm No w0 w' := by
  obtain ⟨y, hy, hy1⟩ := mask_nat 63 x _ (and_63 x)
  have HA := Lib.hid (awake_ok tab)
  clear tab
  go_enter Tryz.func5, Tryz.ntmps5
  go_wp2_with (fail)
  refine HA.out.mono ?_
  rintro e w1 ⟨rfl, F1⟩
  clear HA
  go_wp2_with (fail)
  have FX : Frm No w1 (((((w1.alloc (.cells #[.int .i64 8, .int .i64 8] 3 (0, 0))).alloc (.cells #[.int .i64 1, .int .i64 9, .int .i64 4, .slice (some ⟨w1.heap.size, 0, none⟩) 2 2, .int .i64 4, .string ⟨#[84]⟩, .string ⟨#[105]⟩, .string ⟨#[102]⟩, .string ⟨#[]⟩, .int .i64 0, .int .i64 0, .int .i64 0, .int .i64 0, .slice none 0 0] 35 (0, 0))).alloc (.cells #[.int .i64 5, .int .i64 5] 3 (0, 0))).alloc (.cells #[.int .i64 0, .int .i64 2, .int .i64 3, .string ⟨#[97]⟩, .bool false, .int .i64 0, .int .i64 3, .int .i64 2, .string ⟨#[]⟩, .bool true] 59 (0, 0))).alloc (.cells #[.int .i64 3, .bool false, .int .i64 0, .int .i64 0, .string ⟨#[]⟩, .int .i64 0, .int .i64 0, .slice none 0 0, .slice (some ⟨w1.heap.size + 1 + 1 + 1, 0, none⟩) 2 2, .slice (some ⟨w1.heap.size + 1 + 1, 0, none⟩) 2 2] 30 (0, 0))) := (((((Frm.refl No w1).al _).al _).al _).al _).al _
  have hD : (((((w1.alloc (.cells #[.int .i64 8, .int .i64 8] 3 (0, 0))).alloc (.cells #[.int .i64 1, .int .i64 9, .int .i64 4, .slice (some ⟨w1.heap.size, 0, none⟩) 2 2, .int .i64 4, .string ⟨#[84]⟩, .string ⟨#[105]⟩, .string ⟨#[102]⟩, .string ⟨#[]⟩, .int .i64 0, .int .i64 0, .int .i64 0, .int .i64 0, .slice none 0 0] 35 (0, 0))).alloc (.cells #[.int .i64 5, .int .i64 5] 3 (0, 0))).alloc (.cells #[.int .i64 0, .int .i64 2, .int .i64 3, .string ⟨#[97]⟩, .bool false, .int .i64 0, .int .i64 3, .int .i64 2, .string ⟨#[]⟩, .bool true] 59 (0, 0))).alloc (.cells #[.int .i64 3, .bool false, .int .i64 0, .int .i64 0, .string ⟨#[]⟩, .int .i64 0, .int .i64 0, .slice none 0 0, .slice (some ⟨w1.heap.size + 1 + 1 + 1, 0, none⟩) 2 2, .slice (some ⟨w1.heap.size + 1 + 1, 0, none⟩) 2 2] 30 (0, 0))).heap[w1.heap.size]? = some (.cells #[.int .i64 8, .int .i64 8] 3 (0, 0)) := al_old (al_old (al_old (al_old (heap_alloc_new w1 _))))
  have hO : (((((w1.alloc (.cells #[.int .i64 8, .int .i64 8] 3 (0, 0))).alloc (.cells #[.int .i64 1, .int .i64 9, .int .i64 4, .slice (some ⟨w1.heap.size, 0, none⟩) 2 2, .int .i64 4, .string ⟨#[84]⟩, .string ⟨#[105]⟩, .string ⟨#[102]⟩, .string ⟨#[]⟩, .int .i64 0, .int .i64 0, .int .i64 0, .int .i64 0, .slice none 0 0] 35 (0, 0))).alloc (.cells #[.int .i64 5, .int .i64 5] 3 (0, 0))).alloc (.cells #[.int .i64 0, .int .i64 2, .int .i64 3, .string ⟨#[97]⟩, .bool false, .int .i64 0, .int .i64 3, .int .i64 2, .string ⟨#[]⟩, .bool true] 59 (0, 0))).alloc (.cells #[.int .i64 3, .bool false, .int .i64 0, .int .i64 0, .string ⟨#[]⟩, .int .i64 0, .int .i64 0, .slice none 0 0, .slice (some ⟨w1.heap.size + 1 + 1 + 1, 0, none⟩) 2 2, .slice (some ⟨w1.heap.size + 1 + 1, 0, none⟩) 2 2] 30 (0, 0))).heap[w1.heap.size + 1]? = some (.cells #[.int .i64 1, .int .i64 9, .int .i64 4, .slice (some ⟨w1.heap.size, 0, none⟩) 2 2, .int .i64 4, .string ⟨#[84]⟩, .string ⟨#[105]⟩, .string ⟨#[102]⟩, .string ⟨#[]⟩, .int .i64 0, .int .i64 0, .int .i64 0, .int .i64 0, .slice none 0 0] 35 (0, 0)) := al_old (al_old (al_old (al_at (by simp))))
  have hS : (((((w1.alloc (.cells #[.int .i64 8, .int .i64 8] 3 (0, 0))).alloc (.cells #[.int .i64 1, .int .i64 9, .int .i64 4, .slice (some ⟨w1.heap.size, 0, none⟩) 2 2, .int .i64 4, .string ⟨#[84]⟩, .string ⟨#[105]⟩, .string ⟨#[102]⟩, .string ⟨#[]⟩, .int .i64 0, .int .i64 0, .int .i64 0, .int .i64 0, .slice none 0 0] 35 (0, 0))).alloc (.cells #[.int .i64 5, .int .i64 5] 3 (0, 0))).alloc (.cells #[.int .i64 0, .int .i64 2, .int .i64 3, .string ⟨#[97]⟩, .bool false, .int .i64 0, .int .i64 3, .int .i64 2, .string ⟨#[]⟩, .bool true] 59 (0, 0))).alloc (.cells #[.int .i64 3, .bool false, .int .i64 0, .int .i64 0, .string ⟨#[]⟩, .int .i64 0, .int .i64 0, .slice none 0 0, .slice (some ⟨w1.heap.size + 1 + 1 + 1, 0, none⟩) 2 2, .slice (some ⟨w1.heap.size + 1 + 1, 0, none⟩) 2 2] 30 (0, 0))).heap[w1.heap.size + 1 + 1]? = some (.cells #[.int .i64 5, .int .i64 5] 3 (0, 0)) := al_old (al_old (al_at (by simp)))
  have hE : (((((w1.alloc (.cells #[.int .i64 8, .int .i64 8] 3 (0, 0))).alloc (.cells #[.int .i64 1, .int .i64 9, .int .i64 4, .slice (some ⟨w1.heap.size, 0, none⟩) 2 2, .int .i64 4, .string ⟨#[84]⟩, .string ⟨#[105]⟩, .string ⟨#[102]⟩, .string ⟨#[]⟩, .int .i64 0, .int .i64 0, .int .i64 0, .int .i64 0, .slice none 0 0] 35 (0, 0))).alloc (.cells #[.int .i64 5, .int .i64 5] 3 (0, 0))).alloc (.cells #[.int .i64 0, .int .i64 2, .int .i64 3, .string ⟨#[97]⟩, .bool false, .int .i64 0, .int .i64 3, .int .i64 2, .string ⟨#[]⟩, .bool true] 59 (0, 0))).alloc (.cells #[.int .i64 3, .bool false, .int .i64 0, .int .i64 0, .string ⟨#[]⟩, .int .i64 0, .int .i64 0, .slice none 0 0, .slice (some ⟨w1.heap.size + 1 + 1 + 1, 0, none⟩) 2 2, .slice (some ⟨w1.heap.size + 1 + 1, 0, none⟩) 2 2] 30 (0, 0))).heap[w1.heap.size + 1 + 1 + 1]? = some (.cells #[.int .i64 0, .int .i64 2, .int .i64 3, .string ⟨#[97]⟩, .bool false, .int .i64 0, .int .i64 3, .int .i64 2, .string ⟨#[]⟩, .bool true] 59 (0, 0)) := al_old (al_at (by simp))
  have hC : (((((w1.alloc (.cells #[.int .i64 8, .int .i64 8] 3 (0, 0))).alloc (.cells #[.int .i64 1, .int .i64 9, .int .i64 4, .slice (some ⟨w1.heap.size, 0, none⟩) 2 2, .int .i64 4, .string ⟨#[84]⟩, .string ⟨#[105]⟩, .string ⟨#[102]⟩, .string ⟨#[]⟩, .int .i64 0, .int .i64 0, .int .i64 0, .int .i64 0, .slice none 0 0] 35 (0, 0))).alloc (.cells #[.int .i64 5, .int .i64 5] 3 (0, 0))).alloc (.cells #[.int .i64 0, .int .i64 2, .int .i64 3, .string ⟨#[97]⟩, .bool false, .int .i64 0, .int .i64 3, .int .i64 2, .string ⟨#[]⟩, .bool true] 59 (0, 0))).alloc (.cells #[.int .i64 3, .bool false, .int .i64 0, .int .i64 0, .string ⟨#[]⟩, .int .i64 0, .int .i64 0, .slice none 0 0, .slice (some ⟨w1.heap.size + 1 + 1 + 1, 0, none⟩) 2 2, .slice (some ⟨w1.heap.size + 1 + 1, 0, none⟩) 2 2] 30 (0, 0))).heap[w1.heap.size + 1 + 1 + 1 + 1]? = some (.cells #[.int .i64 3, .bool false, .int .i64 0, .int .i64 0, .string ⟨#[]⟩, .int .i64 0, .int .i64 0, .slice none 0 0, .slice (some ⟨w1.heap.size + 1 + 1 + 1, 0, none⟩) 2 2, .slice (some ⟨w1.heap.size + 1 + 1, 0, none⟩) 2 2] 30 (0, 0)) := al_at (by simp)
  have z1 := F1.size
  have FX := F1.trans FX
  clear F1
  revert hD hO hS hE hC FX
  generalize (((((w1.alloc (.cells #[.int .i64 8, .int .i64 8] 3 (0, 0))).alloc (.cells #[.int .i64 1, .int .i64 9, .int .i64 4, .slice (some ⟨w1.heap.size, 0, none⟩) 2 2, .int .i64 4, .string ⟨#[84]⟩, .string ⟨#[105]⟩, .string ⟨#[102]⟩, .string ⟨#[]⟩, .int .i64 0, .int .i64 0, .int .i64 0, .int .i64 0, .slice none 0 0] 35 (0, 0))).alloc (.cells #[.int .i64 5, .int .i64 5] 3 (0, 0))).alloc (.cells #[.int .i64 0, .int .i64 2, .int .i64 3, .string ⟨#[97]⟩, .bool false, .int .i64 0, .int .i64 3, .int .i64 2, .string ⟨#[]⟩, .bool true] 59 (0, 0))).alloc (.cells #[.int .i64 3, .bool false, .int .i64 0, .int .i64 0, .string ⟨#[]⟩, .int .i64 0, .int .i64 0, .slice none 0 0, .slice (some ⟨w1.heap.size + 1 + 1 + 1, 0, none⟩) 2 2, .slice (some ⟨w1.heap.size + 1 + 1, 0, none⟩) 2 2] 30 (0, 0))) = X
  intro hD hO hS hE hC FX
  have oD : Ow X (fun k => k = w1.heap.size) 3 eInt (.slice (some ⟨w1.heap.size, 0, none⟩) 2 2) [8, 8] := Ow.row (l := [8, 8]) (c := 2) hD rfl (by decide) (by decide) rfl rfl
  have oS : Ow X (fun k => k = w1.heap.size + 1 + 1) 3 eInt (.slice (some ⟨w1.heap.size + 1 + 1, 0, none⟩) 2 2) [5, 5] := Ow.row (l := [5, 5]) (c := 2) hS rfl (by decide) (by decide) rfl rfl
  have oE : Ow X (fun k => k = w1.heap.size + 1 + 1 + 1) 59 eEl (.slice (some ⟨w1.heap.size + 1 + 1 + 1, 0, none⟩) 2 2) [(0, 2, 3, ⟨#[97]⟩, false), (0, 3, 2, ⟨#[]⟩, true)] := Ow.row (E := eEl) (l := ([(0, 2, 3, ⟨#[97]⟩, false), (0, 3, 2, ⟨#[]⟩, true)] : List El)) (c := 2) hE rfl (by decide) (by decide) rfl rfl
  refine (may_G ⟨RdS.nil _ _, oE.rd, oS.rd⟩).mono ?_
  rintro e w2 ⟨rfl, f2⟩
  have F2 := FX.trans f2
  have C2 := f2.obj hC id
  have O2 := f2.obj hO id
  have D2 := oD.no f2
  have S2 := oS.no f2
  have E2 := oE.no f2
  clear FX hD hO hS hE hC oD oS oE f2
  have z2 := lt_of_block C2
  have n2 : w1.heap.size + 1 + 1 + 1 + 1 < w2.heap.size + 1 := by omega
  go_wp2_with (refine wpList_sto _ rfl (.tmp 7) (.tmp 146) 30 rfl (al_old C2) (by kernel_rfl) (by rfl) (vs := [.int .i64 0, .bool true, .int .i64 1, .int .i64 (1 + (1 + (y : Int))), .string ⟨#[]⟩, .int .i64 0, .int .i64 0, .slice none 0 0, .slice none 0 0, .slice (some ⟨w2.heap.size, 0, none⟩) 2 2]) (by intro u hu; simp only [List.mem_cons, List.not_mem_nil, or_false] at hu; rcases hu with rfl | rfl | rfl | rfl | rfl | rfl | rfl | rfl | rfl | rfl <;> rfl) rfl rfl ?_)
  intro w3 C3 f3 z3
  have N2 := heap_alloc_new w2 (.cells #[.int .i64 5, .int .i64 5] 3 (0, 0))
  have oN : Ow (w2.alloc (.cells #[.int .i64 5, .int .i64 5] 3 (0, 0))) (fun k => k = w2.heap.size) 3 eInt (.slice (some ⟨w2.heap.size, 0, none⟩) 2 2) [5, 5] := Ow.row (l := [5, 5]) (c := 2) N2 rfl (by decide) (by decide) rfl rfl
  have F3 := (F2.al (.cells #[.int .i64 5, .int .i64 5] 3 (0, 0))).then f3 fun k hk e => by have := lt_of_block C2; omega
  have O3 := f3.obj (al_old O2) (by omega)
  have D3 := (D2.al (.cells #[.int .i64 5, .int .i64 5] 3 (0, 0))).frm f3 fun k hk e => by omega
  have S3 := oN.frm f3 fun k hk e => by omega
  clear F2 O2 D2 S2 E2 f3 C2 N2 oN z2 n2
  obtain ⟨q0, q1, q2, q3, q4, q5, q6, q7, q8, q9⟩ := obj10 C3
  obtain ⟨t0, t1, t2, t3, t4, t5, t6, t7, t8, t9, t10, t11, t12, t13⟩ := obj14 O3
  have hF : ∀ x1 x2 x3, cval (fB 16 (y + 1)) x1 x2 x3 = (fun x1 x2 x3 => .agg #[.int .i64 0, .bool true, .int .i64 1, .int .i64 (1 + (1 + (y : Int))), .string ⟨#[]⟩, .int .i64 0, .int .i64 0, x1, x2, x3]) x1 x2 x3 := fun x1 x2 x3 => by
    have : ((y + 1 : Nat) : Int) = 1 + (y : Int) := by omega
    show Value.agg #[.int .i64 0, .bool true, .int .i64 1, .int .i64 (1 + ((y + 1 : Nat) : Int)), .string ⟨#[]⟩, .int .i64 0, .int .i64 0, x1, x2, x3] = _
    rw [this]
  have HM := fB_may ⟨16, by omega⟩ ⟨y, by omega⟩ (by show (16 : Nat) ≠ 12; decide)
  have HZ : CellZ (fB 16 (y + 1)) := ⟨fG_z.v, (fun x hx => by cases hx), (fun x hx => by cases hx)⟩
  go_wp2_with (fail)
  have R3 : CellR w3 (fB 16 (y + 1)) (.slice none 0 0) (.slice none 0 0) (.slice (some ⟨w2.heap.size, 0, none⟩) 2 2) := ⟨RdS.nil _ _, RdS.nil _ _, S3.rd⟩
  have HB : CellB (fB 16 (y + 1)) := ⟨(by show 0 * 32 ≤ _; unfold reachBytes; omega), (by show 0 * 48 ≤ _; unfold reachBytes; omega), (by show 2 * 8 ≤ _; unfold reachBytes; omega)⟩
  refine (apply_no hF HM R3 HB HZ (o := ⟨(1, 9), 4, [8, 8], 4, ⟨#[84]⟩, ⟨#[105]⟩, ⟨#[102]⟩, ⟨#[]⟩, (0, 0), (0, 0), []⟩) ⟨D3.rd, RdS.nil _ _⟩ ⟨by decide, by decide, by decide, by decide⟩).mono ?_
  rintro e w4 ⟨b1, d1, b2, d2, b3, d3, rfl, r4, f4⟩
  have F4 := F3.trans f4
  have R4 := R3.no f4
  have C4 := f4.obj C3 id
  clear F3 R3 C3 O3 D3 S3 f4 q0 q1 q2 q3 q4 q5 q6 q7 q8 q9 t0 t1 t2 t3 t4 t5 t6 t7 t8 t9 t10 t11 t12 t13
  have n4 := lt_of_block C4
  obtain ⟨q0, q1, q2, q3, q4, q5, q6, q7, q8, q9⟩ := obj10 C4
  go_wp2_with (fail)
  have G4 := (Frm.refl No w4).al (.cells #[.int .i64 0, .bool false, .int .i64 0, .int .i64 0, .string ⟨#[]⟩, .int .i64 0, .int .i64 0, .slice b1 0 d1, .slice b2 0 d2, .slice b3 0 d3] 30 (0, 0))
  refine (may_no hF HM (R4.no G4) HZ).mono ?_
  rintro e w5 ⟨rfl, f5⟩
  have Z5 := f5.obj (heap_alloc_new w4 (.cells #[.int .i64 0, .bool false, .int .i64 0, .int .i64 0, .string ⟨#[]⟩, .int .i64 0, .int .i64 0, .slice b1 0 d1, .slice b2 0 d2, .slice b3 0 d3] 30 (0, 0))) id
  have G5 := G4.trans f5
  have F5 := F4.trans G5
  have r5 := r4.no G5
  clear F4 R4 C4 G4 G5 f5 r4 n4 q0 q1 q2 q3 q4 q5 q6 q7 q8 q9
  have n5 := lt_of_block Z5
  obtain ⟨q0, q1, q2, q3, q4, q5, q6, q7, q8, q9⟩ := obj10 Z5
  go_wp2_with (fail)
  refine (sameCell_ok r5 (c := zeroC) (ve' := .slice none 0 0) (vl' := .slice none 0 0) (vs' := .slice none 0 0) ⟨RdS.nil _ _, RdS.nil _ _, RdS.nil _ _⟩).mono ?_
  rintro e w6 ⟨rfl, f6⟩
  go_wp2_with (go_at_call 18; refine (num_ok _ _).mono ?_; rintro e w' ⟨rfl, rfl⟩)
  go_ret
  exact ⟨rfl, F5.trans f6⟩
end Go.Proofs.YtofikfkgiblblaaGreatDoor

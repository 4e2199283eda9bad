/- Sets: what every program answers that is one. -/
import Derived.Test.YtheejjifcpjdbaaSetC
namespace Go.Proofs.Ytheejjifcpjdbaa
set_option linter.unusedVariables false
set_option linter.unusedSimpArgs false
open Go.RowKit Go.Lib Go.Tt
def l1 : List En := [(1, 2, ⟨#[98]⟩)]
def l2 : List En := [(0, 7, ⟨#[97]⟩), (1, 2, ⟨#[98]⟩)]
def l3 : List En := [(0, 7, ⟨#[97]⟩), (1, 2, ⟨#[98]⟩), (1, 3, ⟨#[98]⟩)]
def l4 : List En := [(0, 7, ⟨#[97]⟩), (1, 3, ⟨#[98]⟩)]
theorem put_l1 : putEn [] (1, 2) ⟨#[98]⟩ = l1 := rfl
theorem put_l2 : putEn l1 (0, 7) ⟨#[97]⟩ = l2 := rfl
theorem put_l3 : putEn l2 (1, 3) ⟨#[98]⟩ = l3 := rfl
theorem drop_l4 : dropped l3 [(1, 2)] = l4 := rfl
theorem dots_l3 : dotsOf l3 ⟨#[98]⟩ = [(1, 2), (1, 3)] := rfl
theorem vals_l3 : valsOf l3 = [⟨#[97]⟩, ⟨#[98]⟩] := by
  refine valsOf_eq ?_ fun x => ?_
  · refine List.pairwise_cons.2 ⟨fun y hy => ?_, List.pairwise_singleton _ _⟩
    obtain rfl := List.mem_singleton.1 hy
    show ([97] : List UInt8) < [98]
    decide
  · simp [l3, eq_comm]
set_option maxHeartbeats 2000000 in
set_option maxRecDepth 100000 in
theorem awake9_ok (w : World) : Calls Try.prog 55 #[] w fun e w' => e = .returned (.bool true) ∧ Frm No w w' := by
  go_enter Try.func55, Try.ntmps55
  go_wp2_with (fail)
  have F0 : Frm No w (w.alloc (.cells #[.int .i64 2, .bool false, .int .i64 0, .int .i64 0, .string ⟨#[]⟩, .int .i64 0, .int .i64 0, .slice none 0 0, .slice none 0 0, .slice none 0 0] 59 (0, 0))) := (Frm.refl No w).al _
  refine (set_put (setC_nil _) (by decide) (1, 2) rfl ⟨#[98]⟩ (by decide) (by simp) 1 rfl).mono ?_
  rintro e w1 ⟨a1, m1, b1, d1, f1, g1, rfl, o1, fr1⟩
  have F1 := F0.trans fr1
  rw [put_l1] at o1
  clear F0 fr1
  go_wp2_with (fail)
  refine (set_put (o1.rd.no ((Frm.refl No w1).al _)) (by decide) (0, 7) rfl ⟨#[97]⟩ (by decide) (by simp [l1]) 2 rfl).mono ?_
  rintro e w2 ⟨a2, m2, b2, d2, f2, g2, rfl, o2, fr2⟩
  have F2 := (F1.al _).trans fr2
  rw [put_l2] at o2
  clear F1 fr2 o1
  go_wp2_with (fail)
  refine (set_put (o2.rd.no ((Frm.refl No w2).al _)) (by decide) (1, 3) rfl ⟨#[98]⟩ (by decide) (by simp [l2]) 3 rfl).mono ?_
  rintro e w3 ⟨a3, m3, b3, d3, f3, g3, rfl, o3, fr3⟩
  have F3 := (F2.al _).trans fr3
  rw [put_l3] at o3
  have R3 := o3.rd
  clear F2 fr3 o2 o3
  go_wp2_with (fail)
  refine (set_dots (R3.no ((Frm.refl No w3).al _)) (by decide) ⟨#[98]⟩ 2 rfl).mono ?_
  rintro e w4 ⟨a4, m4, rfl, o4, fr4⟩
  rw [dots_l3] at o4
  have D4 := o4.rd
  have F4 := (F3.al (.cells #[.int .i64 2, .bool false, .int .i64 0, .int .i64 0, .string ⟨#[]⟩, .int .i64 0, .int .i64 0, .slice a3 3 m3, .slice b3 0 d3, .slice f3 0 g3] 59 (0, 0))).trans fr4
  have B4 := fr4.obj (heap_alloc_new w3 (.cells #[.int .i64 2, .bool false, .int .i64 0, .int .i64 0, .string ⟨#[]⟩, .int .i64 0, .int .i64 0, .slice a3 3 m3, .slice b3 0 d3, .slice f3 0 g3] 59 (0, 0))) id
  have R4 := R3.no (((Frm.refl No w3).al _).trans fr4)
  have n4 := lt_of_block B4
  clear F3 fr4 o4 R3
  obtain ⟨q0, q1, q2, q3, q4, q5, q6, q7, q8, q9⟩ := obj10 B4
  go_wp2_with (fail)
  refine (set_values R4 (by decide) 2 (by rw [vals_l3]; rfl)).mono ?_
  rintro e w5 ⟨a5, m5, rfl, o5, fr5⟩
  rw [vals_l3] at o5
  have V5 := o5.rd
  have F5 := F4.trans fr5
  have B5 := fr5.obj B4 id
  have R5 := R4.no fr5
  have D5 := D4.no fr5
  have n5 := lt_of_block B5
  clear F4 fr5 o5 R4 D4 B4 q0 q1 q2 q3 q4 q5 q6 q7 q8 q9
  obtain ⟨q0, q1, q2, q3, q4, q5, q6, q7, q8, q9⟩ := obj10 B5
  go_wp2_with (fail)
  refine (set_drop (R5.no ((Frm.refl No w5).al _)) (by decide) (RdS.litg w5 eDt (1, 2) _ rfl) 2 rfl).mono ?_
  rintro e w6 ⟨a6, m6, b6, d6, f6, g6, rfl, o6, fr6⟩
  rw [drop_l4] at o6
  have H6 := o6.rd.e
  have F6 := (F5.al _).trans fr6
  have B6 := fr6.obj (al_old B5) id
  have G := ((Frm.refl No w5).al _).trans fr6
  have R6 := R5.no G
  have D6 := D5.no G
  have V6 := V5.no G
  have n6 := lt_of_block B6
  clear F5 fr6 o6 R5 D5 V5 B5 G q0 q1 q2 q3 q4 q5 q6 q7 q8 q9
  obtain ⟨q0, q1, q2, q3, q4, q5, q6, q7, q8, q9⟩ := obj10 B6
  go_wp2_with (fail)
  refine (set_put_bad (R6.no ((Frm.refl No w6).al _)) (0, 7) ⟨#[122]⟩ (by decide) (.inr (.inr ⟨(0, 7, ⟨#[97]⟩), by simp [l3], rfl⟩))).mono ?_
  rintro e w7 ⟨rfl, fr7⟩
  have F7 := (F6.al (.cells #[.int .i64 2, .bool false, .int .i64 0, .int .i64 0, .string ⟨#[]⟩, .int .i64 0, .int .i64 0, .slice a6 2 m6, .slice b6 0 d6, .slice f6 0 g6] 59 (0, 0))).trans fr7
  have C7 := fr7.obj (heap_alloc_new w6 (.cells #[.int .i64 2, .bool false, .int .i64 0, .int .i64 0, .string ⟨#[]⟩, .int .i64 0, .int .i64 0, .slice a6 2 m6, .slice b6 0 d6, .slice f6 0 g6] 59 (0, 0))) id
  have G := ((Frm.refl No w6).al (.cells #[.int .i64 2, .bool false, .int .i64 0, .int .i64 0, .string ⟨#[]⟩, .int .i64 0, .int .i64 0, .slice a6 2 m6, .slice b6 0 d6, .slice f6 0 g6] 59 (0, 0))).trans fr7
  have H7 := H6.no G
  have D7 := D6.no G
  have V7 := V6.no G
  clear F6 fr7 H6 R6 D6 V6 B6 G q0 q1 q2 q3 q4 q5 q6 q7 q8 q9
  go_wp2_with (fail)
  refine (zero_values _).mono ?_
  rintro e w8 ⟨rfl, fr8⟩
  have G := ((Frm.refl No w7).al _).trans fr8
  have F8 := F7.trans G
  have C8 := G.obj C7 id
  have H8 := H7.no G
  have D8 := D7.no G
  have V8 := V7.no G
  clear F7 fr8 H7 D7 V7 C7 G
  obtain ⟨q0, q1, q2, q3, q4, q5, q6, q7, q8, q9⟩ := obj10 C8
  go_wp2_with (go_at_call 23; refine (num_ok _ _).mono ?_; rintro e w' ⟨rfl, rfl⟩)
  have L9 : RdS (w8.alloc (.cells #[.int .i64 1, .int .i64 2, .int .i64 1, .int .i64 3] 61 (0, 0))) eDt (.slice (some ⟨w8.heap.size, 0, none⟩) 2 2) [(1, 2), (1, 3)] := RdS_lits w8 eDt [(1, 2), (1, 3)] 61 (g := w8.heap.size) (n := 2) rfl rfl (by decide)
  refine (sameDots_ok (D8.no ((Frm.refl No w8).al _)) L9).mono ?_
  rintro e w9 ⟨rfl, k, hw⟩
  have G : Frm No w8 w9 := by rw [hw]; exact ((Frm.refl No w8).al _).dr k
  clear hw L9
  rw [decide_eq_true (rfl : ([(1, 2), (1, 3)] : List Dt) = [(1, 2), (1, 3)])]
  have F9 := F8.trans G
  have C9 := G.obj C8 id
  have H9 := H8.no G
  have V9 := V8.no G
  clear F8 C8 H8 V8 D8 G q0 q1 q2 q3 q4 q5 q6 q7 q8 q9
  go_wp2_with (go_at_call 23; refine (num_ok _ _).mono ?_; rintro e w' ⟨rfl, rfl⟩)
  have L10 : RdS (w9.alloc (.cells #[.string ⟨#[97]⟩, .string ⟨#[98]⟩] 9 (0, 0))) eStr (.slice (some ⟨w9.heap.size, 0, none⟩) 2 2) [⟨#[97]⟩, ⟨#[98]⟩] := RdS_lits w9 eStr [⟨#[97]⟩, ⟨#[98]⟩] 9 (g := w9.heap.size) (n := 2) rfl rfl (by decide)
  refine (sameTexts_ok (V9.no ((Frm.refl No w9).al _)) L10).mono ?_
  rintro e w10 ⟨rfl, k, hw⟩
  have G : Frm No w9 w10 := by rw [hw]; exact ((Frm.refl No w9).al _).dr k
  clear hw L10
  rw [decide_eq_true (rfl : ([⟨#[97]⟩, ⟨#[98]⟩] : List ByteArray) = [⟨#[97]⟩, ⟨#[98]⟩])]
  have F10 := F9.trans G
  have C10 := G.obj C9 id
  have q7 : w10.cell? ⟨w6.heap.size, 7, none⟩ = some (.slice a6 2 m6) := obj_cell C10 7
  obtain ⟨b, off, rfl, hb, hc⟩ := (H9.no G).at (i := 0) (by decide)
  have e2 : w10.cell? ⟨b, off + 2, none⟩ = some (.string ⟨#[97]⟩) := by have := hc 2 _ rfl; rwa [Nat.zero_mul] at this
  clear F9 C9 H9 V9 G hc
  go_wp2_with (go_at_call 23; refine (num_ok _ _).mono ?_; rintro e w' ⟨rfl, rfl⟩)
  go_ret
  exact ⟨rfl, F10⟩
end Go.Proofs.Ytheejjifcpjdbaa

/- Merged: Put PutF. -/
import Derived.Shelf.Abstract
import Derived.Test.YtofikfkgiblblaaGreatDoorQ15
import Derived.Test.YtofikfkgiblblaaGreatDoorQ17
/- Sets: orset.Put. -/
namespace Go.Proofs.YtofikfkgiblblaaGreatDoor
set_option linter.unusedVariables false
set_option linter.unusedSimpArgs false
set_option linter.unusedVariables false
set_option linter.unusedSimpArgs false
open Go.RowKit Go.Lib Go.Tt Go.Shelf
theorem lwwValue_ok (v : ByteArray) (w : World) (hv : v.size ≤ 2 ^ 63 - 1) : Calls Tryz.prog 94 #[.string v] w fun e w' => e = .returned (.bool (decide (v.size ≤ 256))) ∧ w = w' := by
  go_enter Tryz.func94, Tryz.ntmps94
  go_wp2
  all_goals go_ret
  all_goals refine ⟨congrArg (fun b => Ending.returned (Value.bool b)) ?_, rfl⟩
  all_goals first
    | exact dec_t (by omega)
    | exact dec_f (by omega)
    | exact dec_d (by omega)
set_option maxHeartbeats 1000000 in
set_option maxRecDepth 100000 in
theorem put_ok {w : World} {c : CellV} {ve vl vs : Value} (h : CellR w c ve vl vs) (hb : CellB c) (hk : c.kind = 2) (d : Dt) (hd : dotMay d = true) (v : ByteArray) (hv : v.size ≤ 256) (hne : ∀ e ∈ c.ents, (e.1, e.2.1) ≠ d) (hroom : (c.ents.length + 1) * 32 ≤ 140737488355328) :
    Calls Tryz.prog 68 #[cval c ve vl vs, .agg #[.int .i64 d.1, .int .i64 d.2], .string v] w fun e w' => ∃ ve' vl' vs', e = .returned (.tuple #[cval { c with ents := putEn c.ents d v } ve' vl' vs', .int .i64 0]) ∧ CellO w' (Nw No w w') { c with ents := putEn c.ents d v } ve' vl' vs' ∧ Frm No w w' := by
  obtain ⟨he, hl, hs⟩ := h
  have HR := Lib.hid (⟨he, hl, hs⟩ : CellR w c ve vl vs)
  obtain ⟨ae, ce, rfl⟩ := he.sh
  obtain ⟨al, cl, rfl⟩ := hl.sh
  obtain ⟨at_, cs, rfl⟩ := hs.sh
  have hcv : cval c (.slice ae c.ents.length ce) (.slice al c.elems.length cl) (.slice at_ c.seen.length cs) = .agg #[.int .i64 2, .bool c.set, .int .i64 c.st.1, .int .i64 c.st.2, .string c.value, .int .i64 c.num.1, .int .i64 c.num.2, .slice ae c.ents.length ce, .slice al c.elems.length cl, .slice at_ c.seen.length cs] := by unfold cval; rw [hk]
  rw [hcv]
  have HV := Lib.hid hcv
  have HK := Lib.hid hk
  have HB := Lib.hid hb
  have HM := fun W => dotMay16 d W
  rw [hd] at HM
  have HL := fun W => lwwValue_ok v W (by omega)
  rw [decide_eq_true hv] at HL
  have HNE := Lib.hid hne
  clear he hl hs hb hd hk hcv hne
  go_enter Tryz.func68, Tryz.ntmps68
  go_wp2_with (fail)
  refine (HM _).mono ?_
  rintro e w1 ⟨rfl, f1⟩
  have F1 : Frm No w w1 := (((Frm.refl No w).al _).al _).al _ |>.trans f1
  have B1 : w1.heap[w.heap.size]? = some (.cells #[.int .i64 2, .bool c.set, .int .i64 c.st.1, .int .i64 c.st.2, .string c.value, .int .i64 c.num.1, .int .i64 c.num.2, .slice ae c.ents.length ce, .slice al c.elems.length cl, .slice at_ c.seen.length cs] 30 (0, 0)) := f1.obj (al_old (al_old (heap_alloc_new w _))) id
  have D1 : w1.heap[w.heap.size + 1]? = some (.cells #[.int .i64 d.1, .int .i64 d.2] 32 (0, 0)) := f1.obj (al_old (al_at (by simp))) id
  have C1 : w1.heap[w.heap.size + 2]? = some (.cells #[.int .i64 0, .bool false, .int .i64 0, .int .i64 0, .string ⟨#[]⟩, .int .i64 0, .int .i64 0, .slice none 0 0, .slice none 0 0, .slice none 0 0] 30 (0, 0)) := f1.obj (al_at (by simp)) id
  have q7 : w1.cell? ⟨w.heap.size, 7, none⟩ = some (.slice ae c.ents.length ce) := obj_cell B1 7
  clear f1 HM
  go_wp2_with (fail)
  refine (HL _).mono ?_
  rintro e w2 ⟨rfl, rfl⟩
  clear HL
  go_wp2_with (fail)
  have p1 : PredOk w1 107 #[.pointer (some ⟨w.heap.size + 1, 0, none⟩)] (fun e => decide ((e.1, e.2.1) = d)) := fun W x f => put1_ok (f.obj D1 id) x
  have hany : c.ents.any (fun e => decide ((e.1, e.2.1) = d)) = false := by
    rw [Bool.eq_false_iff]
    intro e
    obtain ⟨x, hx, hx2⟩ := List.any_eq_true.1 e
    exact HNE.out x hx (of_decide_eq_true hx2)
  have HC := containsFunc_ok (HR.out.no F1).e p1 (enters_of Tryz.func107 (by kernel_rfl) rfl)
  rw [hany] at HC
  refine HC.mono ?_
  rintro e w2 ⟨rfl, f2⟩
  have F2 := F1.trans f2
  have B2 := f2.obj B1 id
  have D2 := f2.obj D1 id
  have C2 := f2.obj C1 id
  have q72 : w2.cell? ⟨w.heap.size, 7, none⟩ = some (.slice ae c.ents.length ce) := obj_cell B2 7
  clear HC p1 hany f2 B1 D1 C1 q7 F1
  go_wp2_with (fail)
  have p2 : PredOk w2 110 #[.pointer (some ⟨w.heap.size + 1, 0, none⟩)] (fun e => dotLess d (e.1, e.2.1)) := fun W x f => put2_ok (f.obj D2 id) x
  have HC := indexFunc_ok (HR.out.no F2).e p2 (enters_of Tryz.func110 (by kernel_rfl) rfl)
  refine HC.mono ?_
  rintro e w3 ⟨rfl, f3⟩
  have F3 := F2.trans f3
  have B3 := f3.obj B2 id
  have D3 := f3.obj D2 id
  have C3 := f3.obj C2 id
  have q73 : w3.cell? ⟨w.heap.size, 7, none⟩ = some (.slice ae c.ents.length ce) := obj_cell B3 7
  clear HC p2 f3 B2 D2 C2 q72 F2
  have hm1 : c.ents.length ≤ 2 ^ 63 - 1 := by omega
  obtain ⟨q, hq⟩ : ∃ q, Hid (q = putAt c.ents d) := ⟨_, Lib.hid rfl⟩
  have hqn : q ≤ c.ents.length := by rw [hq.out]; exact List.findIdx_le_length
  obtain ⟨z, hz⟩ : ∃ z, Hid (z = idxF c.ents fun e => dotLess d (e.1, e.2.1)) := ⟨_, Lib.hid rfl⟩
  rw [← hz.out]
  have hzq : (z = q ∧ ¬ z < 0) ∨ (z = -1 ∧ q = c.ents.length) := by
    rw [hz.out, hq.out]
    unfold idxF putAt
    by_cases h : List.findIdx (fun e => dotLess d (e.1, e.2.1)) c.ents < c.ents.length
    · rw [if_pos h]; exact .inl ⟨rfl, by omega⟩
    · rw [if_neg h]; exact .inr ⟨rfl, by have := List.findIdx_le_length (xs := c.ents) (p := fun e => dotLess d (e.1, e.2.1)); omega⟩
  obtain ⟨p0, p1, p2, p3, p4, p5, p6, p7, p8, p9⟩ := obj10 B3
  clear q73
  have hcp := lwwCopy_ok (HR.out.no F3) HB.out
  rw [HV.out] at hcp
  have n3 : w.heap.size + 2 < w3.heap.size := lt_of_block C3
  have n31 : w.heap.size + 1 < w3.heap.size := lt_of_block D3
  have n30 : w.heap.size < w3.heap.size := lt_of_block B3
  rcases hzq with ⟨hz1, hz2⟩ | ⟨hz1, hz2⟩
  · subst hz1
    go_wp2_with (fail)
    refine hcp.mono ?_
    rintro e w4 ⟨ve', vl', vs', rfl, o4, f4⟩
    obtain ⟨a4, c4, rfl⟩ := o4.e.sh
    obtain ⟨a5, c5, rfl⟩ := o4.l.sh
    obtain ⟨a6, c6, rfl⟩ := o4.s.sh
    rw [show cval c (.slice a4 c.ents.length c4) (.slice a5 c.elems.length c5) (.slice a6 c.seen.length c6) = .agg #[.int .i64 2, .bool c.set, .int .i64 c.st.1, .int .i64 c.st.2, .string c.value, .int .i64 c.num.1, .int .i64 c.num.2, .slice a4 c.ents.length c4, .slice a5 c.elems.length c5, .slice a6 c.seen.length c6] by unfold cval; rw [HK.out]]
    have F4 := F3.next f4
    have z4 := f4.size
    have B4 := f4.obj B3 id
    have C4 := f4.obj C3 id
    have D4 := f4.obj D3 id
    clear hcp p0 p1 p2 p3 p4 p5 p6 p7 p8 p9 B3 C3 F3
    have hone : ∀ (v1 v2 v3 : Value), v1.oneCell' = true → v2.oneCell' = true → v3.oneCell' = true → ∀ u ∈ [Value.int .i64 2, .bool c.set, .int .i64 c.st.1, .int .i64 c.st.2, .string c.value, .int .i64 c.num.1, .int .i64 c.num.2, v1, v2, v3], u.oneCell' = true := by
      intro v1 v2 v3 h1 h2 h3 u hu
      simp only [List.mem_cons, List.not_mem_nil, or_false] at hu
      rcases hu with rfl | rfl | rfl | rfl | rfl | rfl | rfl | rfl | rfl | rfl <;> first | rfl | assumption
    go_wp2_with (refine wpList_sto _ rfl (.tmp 3) (.tmp 41) 30 rfl B4 (by kernel_rfl) (by rfl) (hone (.slice a4 c.ents.length c4) (.slice a5 c.elems.length c5) (.slice a6 c.seen.length c6) rfl rfl rfl) rfl rfl ?_)
    intro w5 B5 f5 z5
    have C5 := f5.obj C4 (by omega)
    have D5 := f5.obj D4 (by omega)
    have q7 : w5.cell? ⟨w.heap.size, 7, none⟩ = some (.slice a4 c.ents.length c4) := obj_cell B5 7
    have d0 : w5.cell? ⟨w.heap.size + 1, 0, none⟩ = some (.int .i64 d.1) := obj_cell D5 0
    have d1 : w5.cell? ⟨w.heap.size + 1, 1, none⟩ = some (.int .i64 d.2) := obj_cell D5 1
    have n5 : w.heap.size < w5.heap.size := lt_of_block B5
    have hty : ∀ t k, Ty w4 t (Nw No w3 w4) k → w3.heap.size ≤ k ∧ k < w4.heap.size := fun t k h => by rcases h.1 with hk | hk; exact hk.elim; exact hk
    have o5 := o4.e.ty.frm f5 fun k hk e => by have := hty _ k hk; omega
    have l5 := o4.l.ty.frm f5 fun k hk e => by have := hty _ k hk; omega
    have s5 := o4.s.ty.frm f5 fun k hk e => by have := hty _ k hk; omega
    have hnF : ¬ Ty w4 62 (Nw No w3 w4) w4.heap.size := fun hk => by have := hty _ _ hk; omega
    go_wp2_with (fail)
    have hins := insert_ok (o5.al (.cells #[.int .i64 d.1, .int .i64 d.2, .string v] 62)) (g := w4.heap.size) (x := (d.1, d.2, v)) (by rw [← z5]; exact heap_alloc_new w5 _) hnF hqn hroom
    refine hins.mono ?_
    rintro e w6 ⟨a7, c7, rfl, o6, f6⟩
    clear hins d0 d1 q7 n5
    have hN : ∀ k, k < w3.heap.size → ¬ Ty w4 62 (Nw No w3 w4) k := fun k hk h => by have := hty _ _ h; omega
    have l6 := (l5.al (.cells #[.int .i64 d.1, .int .i64 d.2, .string v] 62)).frm f6 fun k hk => hk.apart (by decide)
    have s6 := (s5.al (.cells #[.int .i64 d.1, .int .i64 d.2, .string v] 62)).frm f6 fun k hk => hk.apart (by decide)
    have B6 := f6.obj (al_old B5) (hN _ n30)
    have C6 := f6.obj (al_old C5) (hN _ n3)
    have z6 : w4.heap.size + 1 ≤ w6.heap.size := by have := f6.size; simp at this; omega
    have n6 : w.heap.size < w6.heap.size := lt_of_block B6
    obtain ⟨q0, q1, q2, q3, q4, q5, q6, q7, q8, q9⟩ := obj10 B6
    have r3 := obj_frz B6
    go_wp2_with (refine wpList_sto _ rfl (.tmp 6) (.tmp 51) 30 rfl (obj_setCell_ne C6 (by omega) (.slice a7 (c.ents.length + 1) c7)) (by kernel_rfl) (by rfl) (hone (.slice a7 (c.ents.length + 1) c7) (.slice a5 c.elems.length c5) (.slice a6 c.seen.length c6) rfl rfl rfl) rfl rfl ?_)
    intro w7 C7 f7 z7
    obtain ⟨t0, t1, t2, t3, t4, t5, t6, t7, t8, t9⟩ := obj10 C7
    clear q0 q1 q2 q3 q4 q5 q6 q7 q8 q9 r3
    go_wp2
    refine bodyPost_ret (v := .tuple #[.agg #[.int .i64 2, .bool c.set, .int .i64 c.st.1, .int .i64 c.st.2, .string c.value, .int .i64 c.num.1, .int .i64 c.num.2, .slice a7 (c.ents.length + 1) c7, .slice a5 c.elems.length c5, .slice a6 c.seen.length c6], .int .i64 0]) (by simp [results, Tryz.results68, go_sem, *]) rfl ?_
    have hlen : (putEn c.ents d v).length = c.ents.length + 1 := by
      unfold putEn
      rw [← hq.out, List.length_append, List.length_cons, List.length_take, List.length_drop]; omega
    have hpe : putEn c.ents d v = c.ents.take q ++ (d.1, d.2, v) :: c.ents.drop q := by unfold putEn; rw [← hq.out]
    have G67 : Frm (fun k => w.heap.size ≤ k ∧ k < w.heap.size + 3) w6 w7 := (Frm.setCell (F := fun k => w.heap.size ≤ k ∧ k < w.heap.size + 3) w6 ⟨w.heap.size, 7, none⟩ (.slice a7 (c.ents.length + 1) c7) (by show w.heap.size ≤ w.heap.size ∧ w.heap.size < w.heap.size + 3; omega)).trans (f7.mono fun k _ hk => by omega)
    have hG2 : ∀ k, w.heap.size + 3 ≤ k → ¬ (w.heap.size ≤ k ∧ k < w.heap.size + 3) := fun k h => by omega
    have G57 : Frm (fun k => w.heap.size ≤ k) w5 w7 := (((Frm.refl _ w5).al _).trans (f6.mono fun k _ h => by have := hty _ _ h; omega)).trans (G67.mono fun k _ h => h.1)
    have z67 : w7.heap.size = w6.heap.size := z7
    have e1 : Ow w7 (fun k => w.heap.size + 3 ≤ k) 62 eEn (.slice a7 (c.ents.length + 1) c7) (putEn c.ents d v) := by
      rw [hpe]
      refine (o6.mono (G := fun k => w.heap.size + 3 ≤ k) fun k hk h => ?_).frm G67 hG2
      rcases h with h | h
      · have := hty _ _ h; omega
      · have := h.1; simp at this; omega
    have l7 := (l6.mono (G := fun k => w.heap.size + 3 ≤ k) fun k hk h => by have := hty _ _ h; omega).frm G67 hG2
    have s7 := (s6.mono (G := fun k => w.heap.size + 3 ≤ k) fun k hk h => by have := hty _ _ h; omega).frm G67 hG2
    refine ⟨.slice a7 (c.ents.length + 1) c7, _, _, ?_, ⟨e1.fin (by omega), l7.fin (by omega), s7.fin (by omega)⟩, (F4.then f5 fun k hk h => by omega).then G57 fun k hk hh => by omega⟩
    unfold cval
    dsimp only
    rw [HK.out]
  · subst hz1
    subst hz2
    go_wp2_with (fail)
    refine hcp.mono ?_
    rintro e w4 ⟨ve', vl', vs', rfl, o4, f4⟩
    obtain ⟨a4, c4, rfl⟩ := o4.e.sh
    obtain ⟨a5, c5, rfl⟩ := o4.l.sh
    obtain ⟨a6, c6, rfl⟩ := o4.s.sh
    rw [show cval c (.slice a4 c.ents.length c4) (.slice a5 c.elems.length c5) (.slice a6 c.seen.length c6) = .agg #[.int .i64 2, .bool c.set, .int .i64 c.st.1, .int .i64 c.st.2, .string c.value, .int .i64 c.num.1, .int .i64 c.num.2, .slice a4 c.ents.length c4, .slice a5 c.elems.length c5, .slice a6 c.seen.length c6] by unfold cval; rw [HK.out]]
    have F4 := F3.next f4
    have z4 := f4.size
    have B4 := f4.obj B3 id
    have C4 := f4.obj C3 id
    have D4 := f4.obj D3 id
    clear hcp p0 p1 p2 p3 p4 p5 p6 p7 p8 p9 B3 C3 F3
    have hone : ∀ (v1 v2 v3 : Value), v1.oneCell' = true → v2.oneCell' = true → v3.oneCell' = true → ∀ u ∈ [Value.int .i64 2, .bool c.set, .int .i64 c.st.1, .int .i64 c.st.2, .string c.value, .int .i64 c.num.1, .int .i64 c.num.2, v1, v2, v3], u.oneCell' = true := by
      intro v1 v2 v3 h1 h2 h3 u hu
      simp only [List.mem_cons, List.not_mem_nil, or_false] at hu
      rcases hu with rfl | rfl | rfl | rfl | rfl | rfl | rfl | rfl | rfl | rfl <;> first | rfl | assumption
    go_wp2_with (refine wpList_sto _ rfl (.tmp 3) (.tmp 41) 30 rfl B4 (by kernel_rfl) (by rfl) (hone (.slice a4 c.ents.length c4) (.slice a5 c.elems.length c5) (.slice a6 c.seen.length c6) rfl rfl rfl) rfl rfl ?_)
    intro w5 B5 f5 z5
    have C5 := f5.obj C4 (by omega)
    have D5 := f5.obj D4 (by omega)
    have q7 : w5.cell? ⟨w.heap.size, 7, none⟩ = some (.slice a4 c.ents.length c4) := obj_cell B5 7
    have d0 : w5.cell? ⟨w.heap.size + 1, 0, none⟩ = some (.int .i64 d.1) := obj_cell D5 0
    have d1 : w5.cell? ⟨w.heap.size + 1, 1, none⟩ = some (.int .i64 d.2) := obj_cell D5 1
    have n5 : w.heap.size < w5.heap.size := lt_of_block B5
    have hty : ∀ t k, Ty w4 t (Nw No w3 w4) k → w3.heap.size ≤ k ∧ k < w4.heap.size := fun t k h => by rcases h.1 with hk | hk; exact hk.elim; exact hk
    have o5 := o4.e.ty.frm f5 fun k hk e => by have := hty _ k hk; omega
    have l5 := o4.l.ty.frm f5 fun k hk e => by have := hty _ k hk; omega
    have s5 := o4.s.ty.frm f5 fun k hk e => by have := hty _ k hk; omega
    have hnF : ¬ Ty w4 62 (Nw No w3 w4) w4.heap.size := fun hk => by have := hty _ _ hk; omega
    go_wp2_with (fail)
    have hins := insert_ok (o5.al (.cells #[.int .i64 d.1, .int .i64 d.2, .string v] 62)) (g := w4.heap.size) (x := (d.1, d.2, v)) (by rw [← z5]; exact heap_alloc_new w5 _) hnF (Nat.le_refl _) hroom
    refine hins.mono ?_
    rintro e w6 ⟨a7, c7, rfl, o6, f6⟩
    clear hins d0 d1 q7 n5
    have hN : ∀ k, k < w3.heap.size → ¬ Ty w4 62 (Nw No w3 w4) k := fun k hk h => by have := hty _ _ h; omega
    have l6 := (l5.al (.cells #[.int .i64 d.1, .int .i64 d.2, .string v] 62)).frm f6 fun k hk => hk.apart (by decide)
    have s6 := (s5.al (.cells #[.int .i64 d.1, .int .i64 d.2, .string v] 62)).frm f6 fun k hk => hk.apart (by decide)
    have B6 := f6.obj (al_old B5) (hN _ n30)
    have C6 := f6.obj (al_old C5) (hN _ n3)
    have z6 : w4.heap.size + 1 ≤ w6.heap.size := by have := f6.size; simp at this; omega
    have n6 : w.heap.size < w6.heap.size := lt_of_block B6
    obtain ⟨q0, q1, q2, q3, q4, q5, q6, q7, q8, q9⟩ := obj10 B6
    have r3 := obj_frz B6
    go_wp2_with (refine wpList_sto _ rfl (.tmp 6) (.tmp 51) 30 rfl (obj_setCell_ne C6 (by omega) (.slice a7 (c.ents.length + 1) c7)) (by kernel_rfl) (by rfl) (hone (.slice a7 (c.ents.length + 1) c7) (.slice a5 c.elems.length c5) (.slice a6 c.seen.length c6) rfl rfl rfl) rfl rfl ?_)
    intro w7 C7 f7 z7
    obtain ⟨t0, t1, t2, t3, t4, t5, t6, t7, t8, t9⟩ := obj10 C7
    clear q0 q1 q2 q3 q4 q5 q6 q7 q8 q9 r3
    go_wp2
    refine bodyPost_ret (v := .tuple #[.agg #[.int .i64 2, .bool c.set, .int .i64 c.st.1, .int .i64 c.st.2, .string c.value, .int .i64 c.num.1, .int .i64 c.num.2, .slice a7 (c.ents.length + 1) c7, .slice a5 c.elems.length c5, .slice a6 c.seen.length c6], .int .i64 0]) (by simp [results, Tryz.results68, go_sem, *]) rfl ?_
    have hlen : (putEn c.ents d v).length = c.ents.length + 1 := by
      unfold putEn
      rw [← hq.out, List.length_append, List.length_cons, List.length_take, List.length_drop]; omega
    have hpe : putEn c.ents d v = c.ents.take c.ents.length ++ (d.1, d.2, v) :: c.ents.drop c.ents.length := by unfold putEn; rw [← hq.out]
    have G67 : Frm (fun k => w.heap.size ≤ k ∧ k < w.heap.size + 3) w6 w7 := (Frm.setCell (F := fun k => w.heap.size ≤ k ∧ k < w.heap.size + 3) w6 ⟨w.heap.size, 7, none⟩ (.slice a7 (c.ents.length + 1) c7) (by show w.heap.size ≤ w.heap.size ∧ w.heap.size < w.heap.size + 3; omega)).trans (f7.mono fun k _ hk => by omega)
    have hG2 : ∀ k, w.heap.size + 3 ≤ k → ¬ (w.heap.size ≤ k ∧ k < w.heap.size + 3) := fun k h => by omega
    have G57 : Frm (fun k => w.heap.size ≤ k) w5 w7 := (((Frm.refl _ w5).al _).trans (f6.mono fun k _ h => by have := hty _ _ h; omega)).trans (G67.mono fun k _ h => h.1)
    have z67 : w7.heap.size = w6.heap.size := z7
    have e1 : Ow w7 (fun k => w.heap.size + 3 ≤ k) 62 eEn (.slice a7 (c.ents.length + 1) c7) (putEn c.ents d v) := by
      rw [hpe]
      refine (o6.mono (G := fun k => w.heap.size + 3 ≤ k) fun k hk h => ?_).frm G67 hG2
      rcases h with h | h
      · have := hty _ _ h; omega
      · have := h.1; simp at this; omega
    have l7 := (l6.mono (G := fun k => w.heap.size + 3 ≤ k) fun k hk h => by have := hty _ _ h; omega).frm G67 hG2
    have s7 := (s6.mono (G := fun k => w.heap.size + 3 ≤ k) fun k hk h => by have := hty _ _ h; omega).frm G67 hG2
    refine ⟨.slice a7 (c.ents.length + 1) c7, _, _, ?_, ⟨e1.fin (by omega), l7.fin (by omega), s7.fin (by omega)⟩, (F4.then f5 fun k hk h => by omega).then G57 fun k hk hh => by omega⟩
    unfold cval
    dsimp only
    rw [HK.out]
end Go.Proofs.YtofikfkgiblblaaGreatDoor

/- Sets: orset.Put, what may not be put. -/
namespace Go.Proofs.YtofikfkgiblblaaGreatDoor
set_option linter.unusedVariables false
set_option linter.unusedSimpArgs false
open Go.RowKit Go.Lib Go.Tt Go.Shelf
/-- The empty cell. -/
def zval : Value := .agg #[.int .i64 0, .bool false, .int .i64 0, .int .i64 0, .string ⟨#[]⟩, .int .i64 0, .int .i64 0, .slice none 0 0, .slice none 0 0, .slice none 0 0]
def zlist : List Value := [.int .i64 0, .bool false, .int .i64 0, .int .i64 0, .string ⟨#[]⟩, .int .i64 0, .int .i64 0, .slice none 0 0, .slice none 0 0, .slice none 0 0]
theorem zone : ∀ u ∈ zlist, u.oneCell' = true := by
  intro u hu
  simp only [zlist, List.mem_cons, List.not_mem_nil, or_false] at hu
  rcases hu with rfl | rfl | rfl | rfl | rfl | rfl | rfl | rfl | rfl | rfl <;> rfl
set_option maxHeartbeats 1000000 in
set_option maxRecDepth 100000 in
theorem put_bad {w : World} {c : CellV} {ve vl vs : Value} (h : CellR w c ve vl vs) (d : Dt) (v : ByteArray) (hvm : v.size ≤ maxLen) (hbad : c.kind ≠ 2 ∨ dotMay d = false ∨ 256 < v.size ∨ ∃ e ∈ c.ents, (e.1, e.2.1) = d) :
    Calls Tryz.prog 68 #[cval c ve vl vs, .agg #[.int .i64 d.1, .int .i64 d.2], .string v] w fun e w' => e = .returned (.tuple #[zval, .int .i64 900]) ∧ Frm No w w' := by
  obtain ⟨he, hl, hs⟩ := h
  have HR := Lib.hid (⟨he, hl, hs⟩ : CellR w c ve vl vs)
  obtain ⟨ae, ce, rfl⟩ := he.sh
  obtain ⟨al, cl, rfl⟩ := hl.sh
  obtain ⟨at_, cs, rfl⟩ := hs.sh
  unfold cval
  unfold maxLen at hvm
  have HM := fun W => dotMay16 d W
  have HL := fun W => lwwValue_ok v W hvm
  have HBd := Lib.hid hbad
  clear he hl hs hbad
  have C0 : (((w.alloc (.cells #[.int .i64 c.kind, .bool c.set, .int .i64 c.st.1, .int .i64 c.st.2, .string c.value, .int .i64 c.num.1, .int .i64 c.num.2, .slice ae c.ents.length ce, .slice al c.elems.length cl, .slice at_ c.seen.length cs] 30)).alloc (.cells #[.int .i64 d.1, .int .i64 d.2] 32)).alloc (.cells zlist.toArray 30)).heap[w.heap.size + 2]? = some (.cells zlist.toArray 30 (0, 0)) := al_at (by simp)
  have F0 : Frm No w (((w.alloc (.cells #[.int .i64 c.kind, .bool c.set, .int .i64 c.st.1, .int .i64 c.st.2, .string c.value, .int .i64 c.num.1, .int .i64 c.num.2, .slice ae c.ents.length ce, .slice al c.elems.length cl, .slice at_ c.seen.length cs] 30)).alloc (.cells #[.int .i64 d.1, .int .i64 d.2] 32)).alloc (.cells zlist.toArray 30)) := (((Frm.refl No w).al _).al _).al _
  by_cases hk : c.kind = 2
  · rw [hk] at C0 F0 ⊢
    have hbad := HBd.out
    rcases hdm : dotMay d with _ | _
    · rw [hdm] at HM
      clear hbad
      have hK := Lib.hid hk
      have hD := Lib.hid hdm
      clear hk hdm HL
      go_enter Tryz.func68, Tryz.ntmps68
      go_wp2_with (fail)
      refine (HM _).mono ?_
      rintro e w1 ⟨rfl, f1⟩
      have C1 := f1.obj C0 id
      have F1 := F0.trans f1
      clear HM
      go_wp2_with (refine wpList_sto _ rfl (.tmp 6) (.tmp 30) 30 rfl C1 (by kernel_rfl) (by rfl) zone rfl rfl ?_)
      intro w7 C7 f7 z7
      obtain ⟨t0, t1, t2, t3, t4, t5, t6, t7, t8, t9⟩ := obj10 C7
      go_wp2
      refine bodyPost_ret (v := .tuple #[zval, .int .i64 900]) (by simp [results, Tryz.results68, go_sem, zval, *]) rfl ?_
      exact ⟨rfl, F1.then f7 fun k hk e => by omega⟩
    · rw [hdm] at HM
      by_cases hs : v.size ≤ 256
      · rw [decide_eq_true hs] at HL
        have hex : ∃ e ∈ c.ents, (e.1, e.2.1) = d := by
          rcases hbad with h | h | h | h
          · exact absurd hk h
          · rw [hdm] at h; cases h
          · omega
          · exact h
        have hany : c.ents.any (fun e => decide ((e.1, e.2.1) = d)) = true := by
          obtain ⟨x, hx, e⟩ := hex
          exact List.any_eq_true.2 ⟨x, hx, decide_eq_true e⟩
        have HA := Lib.hid hany
        have D0 : (((w.alloc (.cells #[.int .i64 2, .bool c.set, .int .i64 c.st.1, .int .i64 c.st.2, .string c.value, .int .i64 c.num.1, .int .i64 c.num.2, .slice ae c.ents.length ce, .slice al c.elems.length cl, .slice at_ c.seen.length cs] 30)).alloc (.cells #[.int .i64 d.1, .int .i64 d.2] 32)).alloc (.cells zlist.toArray 30)).heap[w.heap.size + 1]? = some (.cells #[.int .i64 d.1, .int .i64 d.2] 32 (0, 0)) := al_old (al_at (by simp))
        have B0 : (((w.alloc (.cells #[.int .i64 2, .bool c.set, .int .i64 c.st.1, .int .i64 c.st.2, .string c.value, .int .i64 c.num.1, .int .i64 c.num.2, .slice ae c.ents.length ce, .slice al c.elems.length cl, .slice at_ c.seen.length cs] 30)).alloc (.cells #[.int .i64 d.1, .int .i64 d.2] 32)).alloc (.cells zlist.toArray 30)).heap[w.heap.size]? = some (.cells #[.int .i64 2, .bool c.set, .int .i64 c.st.1, .int .i64 c.st.2, .string c.value, .int .i64 c.num.1, .int .i64 c.num.2, .slice ae c.ents.length ce, .slice al c.elems.length cl, .slice at_ c.seen.length cs] 30 (0, 0)) := al_old (al_old (heap_alloc_new w _))
        clear hbad hk hdm hex hany hs
        go_enter Tryz.func68, Tryz.ntmps68
        go_wp2_with (fail)
        refine (HM _).mono ?_
        rintro e w1 ⟨rfl, f1⟩
        have C1 := f1.obj C0 id
        have B1 := f1.obj B0 id
        have D1 := f1.obj D0 id
        have F1 := F0.trans f1
        have q7 : w1.cell? ⟨w.heap.size, 7, none⟩ = some (.slice ae c.ents.length ce) := obj_cell B1 7
        clear HM C0 F0 D0 B0 f1
        go_wp2_with (fail)
        refine (HL _).mono ?_
        rintro e w2 ⟨rfl, rfl⟩
        clear HL
        go_wp2_with (fail)
        have p1 : PredOk w1 107 #[.pointer (some ⟨w.heap.size + 1, 0, none⟩)] (fun e => decide ((e.1, e.2.1) = d)) := fun W x f => put1_ok (f.obj D1 id) x
        have HC := containsFunc_ok (HR.out.no F1).e p1 (enters_of Tryz.func107 (by kernel_rfl) rfl)
        rw [HA.out] at HC
        refine HC.mono ?_
        rintro e w2 ⟨rfl, f2⟩
        replace F1 := F1.trans f2
        replace C1 := f2.obj C1 id
        clear HC p1 f2 B1 D1 q7
        go_wp2_with (refine wpList_sto _ rfl (.tmp 6) (.tmp 30) 30 rfl C1 (by kernel_rfl) (by rfl) zone rfl rfl ?_)
        intro w7 C7 f7 z7
        obtain ⟨t0, t1, t2, t3, t4, t5, t6, t7, t8, t9⟩ := obj10 C7
        go_wp2
        refine bodyPost_ret (v := .tuple #[zval, .int .i64 900]) (by simp [results, Tryz.results68, go_sem, zval, *]) rfl ?_
        exact ⟨rfl, F1.then f7 fun k hk e => by omega⟩
      · rw [decide_eq_false hs] at HL
        clear hbad hk hdm
        have hS := Lib.hid hs
        clear hs
        go_enter Tryz.func68, Tryz.ntmps68
        go_wp2_with (fail)
        refine (HM _).mono ?_
        rintro e w1 ⟨rfl, f1⟩
        have C1 := f1.obj C0 id
        have F1 := F0.trans f1
        clear HM
        go_wp2_with (fail)
        refine (HL _).mono ?_
        rintro e w2 ⟨rfl, rfl⟩
        clear HL
        go_wp2_with (refine wpList_sto _ rfl (.tmp 6) (.tmp 30) 30 rfl C1 (by kernel_rfl) (by rfl) zone rfl rfl ?_)
        intro w7 C7 f7 z7
        obtain ⟨t0, t1, t2, t3, t4, t5, t6, t7, t8, t9⟩ := obj10 C7
        go_wp2
        refine bodyPost_ret (v := .tuple #[zval, .int .i64 900]) (by simp [results, Tryz.results68, go_sem, zval, *]) rfl ?_
        exact ⟨rfl, F1.then f7 fun k hk e => by omega⟩
  · go_enter Tryz.func68, Tryz.ntmps68
    go_wp2_with (refine wpList_sto _ rfl (.tmp 6) (.tmp 30) 30 rfl C0 (by kernel_rfl) (by rfl) zone rfl rfl ?_)
    intro w7 C7 f7 z7
    obtain ⟨t0, t1, t2, t3, t4, t5, t6, t7, t8, t9⟩ := obj10 C7
    go_wp2
    refine bodyPost_ret (v := .tuple #[zval, .int .i64 900]) (by simp [results, Tryz.results68, go_sem, zval, *]) rfl ?_
    exact ⟨rfl, F0.then f7 fun k hk e => by omega⟩
end Go.Proofs.YtofikfkgiblblaaGreatDoor

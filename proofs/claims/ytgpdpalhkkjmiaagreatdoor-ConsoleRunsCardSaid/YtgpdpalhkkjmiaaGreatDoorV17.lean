/- Merged: Rga3 Rga4. -/
import Derived.Test.YtgpdpalhkkjmiaaGreatDoorV11
import Derived.Test.YtgpdpalhkkjmiaaGreatDoorV14
import Derived.Test.YtgpdpalhkkjmiaaGreatDoorV16
/- Layer 10: rga.Insert. -/
namespace Go.Proofs.YtgpdpalhkkjmiaaGreatDoor
set_option linter.unusedVariables false
set_option linter.unusedSimpArgs false
set_option linter.unusedVariables false
set_option linter.unusedSimpArgs false
open Go.RowKit Go.Lib Go.Tt Go.Shelf
/-- What Insert gives, of a list and an element that may be. -/
def insF (c : CellV) (x : El) (ref : Dt) : CellV × Int :=
  if 0 ≤ findEl c.elems (x.1, x.2.1) then (zeroC, 1000) else
  match placeOf c.elems (stOf x) ref with
  | none => (zeroC, 1001)
  | some k => ({ c with elems := c.elems.take k ++ x :: c.elems.drop k }, 0)
theorem walkTo_le {l : List El} {s : Dt} {i : Nat} (h : i ≤ l.length) : walkTo l s i ≤ l.length := by
  unfold walkTo
  have := List.findIdx_le_length (xs := l.drop i) (p := fun e => !dotLess s (stOf e))
  rw [List.length_drop] at this
  omega
theorem placeOf_le {l : List El} {s ref : Dt} {k : Nat} (h : placeOf l s ref = some k) : k ≤ l.length := by
  unfold placeOf at h
  have hf := findEl_lt l ref
  split at h
  · obtain rfl := Option.some.inj h; exact walkTo_le (Nat.zero_le _)
  · split at h
    · cases h
    · obtain rfl := Option.some.inj h; exact walkTo_le (by omega)
theorem zval_cp {E : Int} {W : World} {e : Ending} {W' : World} (h : e = .returned (.tuple #[zval, .int .i64 E]) ∧ Frm No W W') : CP zeroC E W e W' := ⟨_, _, _, h.1, zeroC_o _ _, h.2⟩
set_option maxHeartbeats 4000000 in
set_option maxRecDepth 100000 in
theorem rgaInsert_ok {w : World} {c : CellV} {ve vl vs : Value} (h : CellR w c ve vl vs) (hb : CellB c) (hk : c.kind = 3) {x : El} (hd : dotMay (x.1, x.2.1) = true) (ht : timeMay x.2.2.1 = true) (hv : x.2.2.2.1.size ≤ 256) (hg : x.2.2.2.2 = false) (ref : Dt) :
    Calls Tryz.prog 77 #[cval c ve vl vs, .agg #[.int .i64 x.1, .int .i64 x.2.1, .int .i64 x.2.2.1, .string x.2.2.2.1, .bool x.2.2.2.2], .agg #[.int .i64 ref.1, .int .i64 ref.2]] w (CP (insF c x ref).1 (insF c x ref).2 w) := by
  obtain ⟨he, hl, hs⟩ := h
  have HR := Lib.hid (⟨he, hl, hs⟩ : CellR w c ve vl vs)
  obtain ⟨ae, ce, rfl⟩ := he.sh
  obtain ⟨al, cl, rfl⟩ := hl.sh
  obtain ⟨at_, cs, rfl⟩ := hs.sh
  have hcv : ∀ e l s, cval c e l s = .agg #[.int .i64 3, .bool c.set, .int .i64 c.st.1, .int .i64 c.st.2, .string c.value, .int .i64 c.num.1, .int .i64 c.num.2, e, l, s] := by intro e l s; unfold cval; rw [hk]
  rw [hcv, hg]
  have HV := Lib.hid hcv
  have HK := Lib.hid hk
  have HB := Lib.hid hb
  have hroom : (c.elems.length + 1) * 48 ≤ 140737488355328 := by have h1 := hb.l; unfold reachBytes at h1; omega
  have HX : Hid (eEl.f x = [.int .i64 x.1, .int .i64 x.2.1, .int .i64 x.2.2.1, .string x.2.2.2.1, .bool false]) := Lib.hid (by show [Value.int .i64 x.1, .int .i64 x.2.1, .int .i64 x.2.2.1, .string x.2.2.2.1, .bool x.2.2.2.2] = _; rw [hg])
  have HM := Lib.hid (fun W => dotMay16 (x.1, x.2.1) W)
  rw [hd] at HM
  have HT := Lib.hid (fun W => time_ok x.2.2.1 W)
  rw [ht] at HT
  have HL := Lib.hid (fun W => lwwValue_ok x.2.2.2.1 W (by omega))
  rw [decide_eq_true hv] at HL
  clear he hl hs hb hk hcv hd ht hg
  have B0 : ((((w.alloc (.cells #[.int .i64 3, .bool c.set, .int .i64 c.st.1, .int .i64 c.st.2, .string c.value, .int .i64 c.num.1, .int .i64 c.num.2, .slice ae c.ents.length ce, .slice al c.elems.length cl, .slice at_ c.seen.length cs] 75)).alloc (.cells #[.int .i64 x.1, .int .i64 x.2.1, .int .i64 x.2.2.1, .string x.2.2.2.1, .bool false] 91)).alloc (.cells #[.int .i64 ref.1, .int .i64 ref.2] 83)).alloc (.cells zlist.toArray 75)).heap[w.heap.size]? = some (.cells #[.int .i64 3, .bool c.set, .int .i64 c.st.1, .int .i64 c.st.2, .string c.value, .int .i64 c.num.1, .int .i64 c.num.2, .slice ae c.ents.length ce, .slice al c.elems.length cl, .slice at_ c.seen.length cs] 75 (0, 0)) := al_old (al_old (al_old (heap_alloc_new w _)))
  have E0 : ((((w.alloc (.cells #[.int .i64 3, .bool c.set, .int .i64 c.st.1, .int .i64 c.st.2, .string c.value, .int .i64 c.num.1, .int .i64 c.num.2, .slice ae c.ents.length ce, .slice al c.elems.length cl, .slice at_ c.seen.length cs] 75)).alloc (.cells #[.int .i64 x.1, .int .i64 x.2.1, .int .i64 x.2.2.1, .string x.2.2.2.1, .bool false] 91)).alloc (.cells #[.int .i64 ref.1, .int .i64 ref.2] 83)).alloc (.cells zlist.toArray 75)).heap[w.heap.size + 1]? = some (.cells #[.int .i64 x.1, .int .i64 x.2.1, .int .i64 x.2.2.1, .string x.2.2.2.1, .bool false] 91 (0, 0)) := al_old (al_old (al_at (by simp)))
  have D0 : ((((w.alloc (.cells #[.int .i64 3, .bool c.set, .int .i64 c.st.1, .int .i64 c.st.2, .string c.value, .int .i64 c.num.1, .int .i64 c.num.2, .slice ae c.ents.length ce, .slice al c.elems.length cl, .slice at_ c.seen.length cs] 75)).alloc (.cells #[.int .i64 x.1, .int .i64 x.2.1, .int .i64 x.2.2.1, .string x.2.2.2.1, .bool false] 91)).alloc (.cells #[.int .i64 ref.1, .int .i64 ref.2] 83)).alloc (.cells zlist.toArray 75)).heap[w.heap.size + 2]? = some (.cells #[.int .i64 ref.1, .int .i64 ref.2] 83 (0, 0)) := al_old (al_at (by simp))
  have C0 : ((((w.alloc (.cells #[.int .i64 3, .bool c.set, .int .i64 c.st.1, .int .i64 c.st.2, .string c.value, .int .i64 c.num.1, .int .i64 c.num.2, .slice ae c.ents.length ce, .slice al c.elems.length cl, .slice at_ c.seen.length cs] 75)).alloc (.cells #[.int .i64 x.1, .int .i64 x.2.1, .int .i64 x.2.2.1, .string x.2.2.2.1, .bool false] 91)).alloc (.cells #[.int .i64 ref.1, .int .i64 ref.2] 83)).alloc (.cells zlist.toArray 75)).heap[w.heap.size + 3]? = some (.cells zlist.toArray 75 (0, 0)) := al_at (by simp)
  have F0 : Frm No w ((((w.alloc (.cells #[.int .i64 3, .bool c.set, .int .i64 c.st.1, .int .i64 c.st.2, .string c.value, .int .i64 c.num.1, .int .i64 c.num.2, .slice ae c.ents.length ce, .slice al c.elems.length cl, .slice at_ c.seen.length cs] 75)).alloc (.cells #[.int .i64 x.1, .int .i64 x.2.1, .int .i64 x.2.2.1, .string x.2.2.2.1, .bool false] 91)).alloc (.cells #[.int .i64 ref.1, .int .i64 ref.2] 83)).alloc (.cells zlist.toArray 75)) := ((((Frm.refl No w).al _).al _).al _).al _
  go_enter Tryz.func77, Tryz.ntmps77
  go_wp2_with (fail)
  refine (HM.out _).mono ?_
  rintro e w1 ⟨rfl, f1⟩
  have F1 := F0.trans f1
  have B1 := f1.obj B0 id
  have E1 := f1.obj E0 id
  have D1 := f1.obj D0 id
  have C1 := f1.obj C0 id
  clear f1 B0 E0 D0 C0 F0 HM
  have e0 : w1.cell? ⟨w.heap.size + 1, 0, none⟩ = some (.int .i64 x.1) := obj_cell E1 0
  have e1 : w1.cell? ⟨w.heap.size + 1, 1, none⟩ = some (.int .i64 x.2.1) := obj_cell E1 1
  have e2 : w1.cell? ⟨w.heap.size + 1, 2, none⟩ = some (.int .i64 x.2.2.1) := obj_cell E1 2
  have e3 : w1.cell? ⟨w.heap.size + 1, 3, none⟩ = some (.string x.2.2.2.1) := obj_cell E1 3
  have e4 : w1.cell? ⟨w.heap.size + 1, 4, none⟩ = some (.bool false) := obj_cell E1 4
  have nE1 := lt_of_block E1
  go_wp2_with (fail)
  refine (HT.out _).mono ?_
  rintro e w' ⟨rfl, rfl⟩
  clear HT
  go_wp2_with (fail)
  refine (HL.out _).mono ?_
  rintro e w' ⟨rfl, rfl⟩
  clear HL
  go_wp2_with (fail)
  refine (find_ok B1 rfl (HR.out.no F1).l (x.1, x.2.1)).mono ?_
  rintro e w2 ⟨rfl, f2⟩
  have F2 := F1.trans f2
  have B2 := f2.obj B1 id
  have E2 := f2.obj E1 id
  have D2 := f2.obj D1 id
  have C2 := f2.obj C1 id
  clear f2 B1 E1 D1 C1 F1 e0 e1 e2 e3 e4 nE1
  have hI : Hid (insF c x ref = if 0 ≤ findEl c.elems (x.1, x.2.1) then ((zeroC, 1000) : CellV × Int) else match placeOf c.elems (stOf x) ref with | none => (zeroC, 1001) | some k => ({ c with elems := c.elems.take k ++ x :: c.elems.drop k }, 0)) := Lib.hid rfl
  obtain ⟨R, hR⟩ : ∃ R, Hid (R = insF c x ref) := ⟨_, Lib.hid rfl⟩
  rw [← hR.out] at hI ⊢
  obtain ⟨u, hu⟩ : ∃ u, Hid (u = findEl c.elems (x.1, x.2.1)) := ⟨_, Lib.hid rfl⟩
  rw [← hu.out] at hI ⊢
  by_cases hu0 : 0 ≤ u
  · have hRz : Hid (R = (zeroC, 1000)) := Lib.hid (by rw [hI.out, if_pos hu0])
    go_wp2_with (refine wpList_sto _ rfl (.tmp 6) (.tmp 41) 75 rfl C2 (by kernel_rfl) (by rfl) zone rfl rfl ?_)
    intro w7 C7 f7 z7
    obtain ⟨t0, t1, t2, t3, t4, t5, t6, t7, t8, t9⟩ := obj10 C7
    go_wp2
    refine bodyPost_ret (v := .tuple #[zval, .int .i64 1000]) (by simp [results, Tryz.results77, go_sem, zval, *]) rfl ?_
    rw [← hR.out, hRz.out]
    exact zval_cp ⟨rfl, F2.then f7 fun k hk e => by omega⟩
  have hI2 := Lib.hid (hI.out.trans (if_neg hu0))
  clear hI
  have d0 : w2.cell? ⟨w.heap.size + 2, 0, none⟩ = some (.int .i64 ref.1) := obj_cell D2 0
  have d1 : w2.cell? ⟨w.heap.size + 2, 1, none⟩ = some (.int .i64 ref.2) := obj_cell D2 1
  have nD2 := lt_of_block D2
  go_wp2_with (fail)
  refine (place_ok B2 rfl (HR.out.no F2).l (x := x) (by rw [HX.out]; exact E2) ref).mono ?_
  rintro e w3 ⟨rfl, f3⟩
  have F3 := F2.trans f3
  have B3 := f3.obj B2 id
  have E3 := f3.obj E2 id
  have C3 := f3.obj C2 id
  clear f3 B2 E2 C2 D2 F2 d0 d1 nD2
  rcases hp : placeOf c.elems (stOf x) ref with _ | k
  · have hRz : Hid (R = (zeroC, 1001)) := Lib.hid (by rw [hI2.out, hp])
    clear hp
    go_wp2_with (refine wpList_sto _ rfl (.tmp 6) (.tmp 49) 75 rfl C3 (by kernel_rfl) (by rfl) zone rfl rfl ?_)
    intro w7 C7 f7 z7
    obtain ⟨t0, t1, t2, t3, t4, t5, t6, t7, t8, t9⟩ := obj10 C7
    go_wp2
    refine bodyPost_ret (v := .tuple #[zval, .int .i64 1001]) (by simp [results, Tryz.results77, go_sem, zval, *]) rfl ?_
    rw [← hR.out, hRz.out]
    exact zval_cp ⟨rfl, F3.then f7 fun k hk e => by omega⟩
  have hqn := placeOf_le hp
  have hRz : Hid (R = ({ c with elems := c.elems.take k ++ x :: c.elems.drop k }, 0)) := Lib.hid (by rw [hI2.out, hp])
  rw [show ((some k).getD 0 : Nat) = k from rfl]
  clear hp hI2
  have n3 : w.heap.size + 3 < w3.heap.size := lt_of_block C3
  have n30 : w.heap.size < w3.heap.size := lt_of_block B3
  have n31 : w.heap.size + 1 < w3.heap.size := lt_of_block E3
  obtain ⟨p0, p1, p2, p3, p4, p5, p6, p7, p8, p9⟩ := obj10 B3
  have hcp := lwwCopy_ok (HR.out.no F3) HB.out
  rw [HV.out] at hcp
  go_wp2_with (fail)
  refine hcp.mono ?_
  rintro e w4 ⟨ve', vl', vs', rfl, o4, f4⟩
  obtain ⟨a4, c4, rfl⟩ := o4.e.sh
  obtain ⟨a5, c5, rfl⟩ := o4.l.sh
  obtain ⟨a6, c6, rfl⟩ := o4.s.sh
  rw [HV.out]
  have F4 := F3.next f4
  have z4 := f4.size
  have B4 := f4.obj B3 id
  have C4 := f4.obj C3 id
  have E4 := f4.obj E3 id
  clear hcp p0 p1 p2 p3 p4 p5 p6 p7 p8 p9 B3 C3 E3 F3
  have hone : ∀ (v1 v2 v3 : Value), v1.oneCell' = true → v2.oneCell' = true → v3.oneCell' = true → ∀ u ∈ [Value.int .i64 3, .bool c.set, .int .i64 c.st.1, .int .i64 c.st.2, .string c.value, .int .i64 c.num.1, .int .i64 c.num.2, v1, v2, v3], u.oneCell' = true := by
    intro v1 v2 v3 h1 h2 h3 u hu
    simp only [List.mem_cons, List.not_mem_nil, or_false] at hu
    rcases hu with rfl | rfl | rfl | rfl | rfl | rfl | rfl | rfl | rfl | rfl <;> first | rfl | assumption
  go_wp2_with (refine wpList_sto _ rfl (.tmp 3) (.tmp 51) 75 rfl B4 (by kernel_rfl) (by rfl) (hone (.slice a4 c.ents.length c4) (.slice a5 c.elems.length c5) (.slice a6 c.seen.length c6) rfl rfl rfl) rfl rfl ?_)
  intro w5 B5 f5 z5
  have C5 := f5.obj C4 (by omega)
  have E5 := f5.obj E4 (by omega)
  have q8 : w5.cell? ⟨w.heap.size, 8, none⟩ = some (.slice a5 c.elems.length c5) := obj_cell B5 8
  have e0 : w5.cell? ⟨w.heap.size + 1, 0, none⟩ = some (.int .i64 x.1) := obj_cell E5 0
  have e1 : w5.cell? ⟨w.heap.size + 1, 1, none⟩ = some (.int .i64 x.2.1) := obj_cell E5 1
  have e2 : w5.cell? ⟨w.heap.size + 1, 2, none⟩ = some (.int .i64 x.2.2.1) := obj_cell E5 2
  have e3 : w5.cell? ⟨w.heap.size + 1, 3, none⟩ = some (.string x.2.2.2.1) := obj_cell E5 3
  have e4 : w5.cell? ⟨w.heap.size + 1, 4, none⟩ = some (.bool false) := obj_cell E5 4
  have n5 : w.heap.size < w5.heap.size := lt_of_block B5
  have n51 : w.heap.size + 1 < w5.heap.size := lt_of_block E5
  have hty : ∀ t k, Ty w4 t (Nw No w3 w4) k → w3.heap.size ≤ k ∧ k < w4.heap.size := fun t k h => by rcases h.1 with hk | hk; exact hk.elim; exact hk
  have o5 := o4.l.ty.frm f5 fun k hk e => by have := hty _ k hk; omega
  have l5 := o4.e.ty.frm f5 fun k hk e => by have := hty _ k hk; omega
  have s5 := o4.s.ty.frm f5 fun k hk e => by have := hty _ k hk; omega
  have hnF : ¬ Ty w4 91 (Nw No w3 w4) w4.heap.size := fun hk => by have := hty _ _ hk; omega
  go_wp2_with (fail)
  have hins := insertL_ok (o5.al (.cells #[.int .i64 x.1, .int .i64 x.2.1, .int .i64 x.2.2.1, .string x.2.2.2.1, .bool false] 91)) (g := w4.heap.size) (x := x) (by rw [HX.out, ← z5]; exact heap_alloc_new w5 _) hnF hqn hroom
  refine hins.mono ?_
  rintro e w6 ⟨a7, c7, rfl, o6, f6⟩
  clear hins e0 e1 e2 e3 e4 q8 n5 n51 E4 E5
  have hN : ∀ k, k < w3.heap.size → ¬ Ty w4 91 (Nw No w3 w4) k := fun k hk h => by have := hty _ _ h; omega
  have l6 := (l5.al (.cells #[.int .i64 x.1, .int .i64 x.2.1, .int .i64 x.2.2.1, .string x.2.2.2.1, .bool false] 91)).frm f6 fun k hk => hk.apart (by decide)
  have s6 := (s5.al (.cells #[.int .i64 x.1, .int .i64 x.2.1, .int .i64 x.2.2.1, .string x.2.2.2.1, .bool false] 91)).frm f6 fun k hk => hk.apart (by decide)
  have B6 := f6.obj (al_old B5) (hN _ n30)
  have C6 := f6.obj (al_old C5) (hN _ n3)
  have z6 : w4.heap.size + 1 ≤ w6.heap.size := by have := f6.size; simp at this; omega
  have n6 : w.heap.size < w6.heap.size := lt_of_block B6
  obtain ⟨q0, q1, q2, q3, q4, q5, q6, q7, q8, q9⟩ := obj10 B6
  have r3 := obj_frz B6
  go_wp2_with (refine wpList_sto _ rfl (.tmp 6) (.tmp 59) 75 rfl (obj_setCell_ne C6 (by omega) (.slice a7 (c.elems.length + 1) c7)) (by kernel_rfl) (by rfl) (hone (.slice a4 c.ents.length c4) (.slice a7 (c.elems.length + 1) c7) (.slice a6 c.seen.length c6) rfl rfl rfl) rfl rfl ?_)
  intro w7 C7 f7 z7
  obtain ⟨t0, t1, t2, t3, t4, t5, t6, t7, t8, t9⟩ := obj10 C7
  clear q0 q1 q2 q3 q4 q5 q6 q7 q8 q9 r3
  go_wp2
  refine bodyPost_ret (v := .tuple #[.agg #[.int .i64 3, .bool c.set, .int .i64 c.st.1, .int .i64 c.st.2, .string c.value, .int .i64 c.num.1, .int .i64 c.num.2, .slice a4 c.ents.length c4, .slice a7 (c.elems.length + 1) c7, .slice a6 c.seen.length c6], .int .i64 0]) (by simp [results, Tryz.results77, go_sem, *]) rfl ?_
  have hlen : (c.elems.take k ++ x :: c.elems.drop k).length = c.elems.length + 1 := by
    rw [List.length_append, List.length_cons, List.length_take, List.length_drop]; omega
  have G67 : Frm (fun k => w.heap.size ≤ k ∧ k < w.heap.size + 4) w6 w7 := (Frm.setCell (F := fun k => w.heap.size ≤ k ∧ k < w.heap.size + 4) w6 ⟨w.heap.size, 8, none⟩ (.slice a7 (c.elems.length + 1) c7) (by show w.heap.size ≤ w.heap.size ∧ w.heap.size < w.heap.size + 4; omega)).trans (f7.mono fun k _ hk => by omega)
  have hG2 : ∀ k, w.heap.size + 4 ≤ k → ¬ (w.heap.size ≤ k ∧ k < w.heap.size + 4) := fun k h => by omega
  have G57 : Frm (fun k => w.heap.size ≤ k) w5 w7 := (((Frm.refl _ w5).al _).trans (f6.mono fun k _ h => by have := hty _ _ h; omega)).trans (G67.mono fun k _ h => h.1)
  have z67 : w7.heap.size = w6.heap.size := z7
  have e1 : Ow w7 (fun k => w.heap.size + 4 ≤ k) 91 eEl (.slice a7 (c.elems.length + 1) c7) (c.elems.take k ++ x :: c.elems.drop k) := by
    refine (o6.mono (G := fun k => w.heap.size + 4 ≤ k) fun k hk h => ?_).frm G67 hG2
    rcases h with h | h
    · have := hty _ _ h; omega
    · have := h.1; simp at this; omega
  have l7 := (l6.mono (G := fun k => w.heap.size + 4 ≤ k) fun k hk h => by have := hty _ _ h; omega).frm G67 hG2
  have s7 := (s6.mono (G := fun k => w.heap.size + 4 ≤ k) fun k hk h => by have := hty _ _ h; omega).frm G67 hG2
  rw [← hR.out, hRz.out]
  refine ⟨_, .slice a7 (c.elems.length + 1) c7, _, ?_, ⟨l7.fin (by omega), e1.fin (by omega), s7.fin (by omega)⟩, (F4.then f5 fun k hk h => by omega).then G57 fun k hk hh => by omega⟩
  unfold cval
  dsimp only
  rw [HK.out]
end Go.Proofs.YtgpdpalhkkjmiaaGreatDoor

/- Layer 10: rga.Erase, rga.Values. -/
namespace Go.Proofs.YtgpdpalhkkjmiaaGreatDoor
set_option linter.unusedVariables false
set_option linter.unusedSimpArgs false
open Go.RowKit Go.Lib Go.Tt Go.Shelf
/-- An element that was erased. -/
def goneEl (x : El) : El := (x.1, x.2.1, x.2.2.1, ⟨#[]⟩, true)
def setGone (l : List El) (k : Nat) : List El := l.set k (goneEl (l.getD k (0, 0, 0, ⟨#[]⟩, false)))
/-- What Erase gives, of a list. -/
def eraF (c : CellV) (d : Dt) : CellV × Int :=
  if findEl c.elems d < 0 then (zeroC, 1001) else ({ c with elems := setGone c.elems (findEl c.elems d).toNat }, 0)
theorem flat_set {α : Type} (E : Enc α) {l : List α} {k j : Nat} {y : α} {v : Value} (hk : k < l.length) (hj : j < E.k) (hy : E.f y = (E.f l[k]).set j v) : (E.flat l).set (k * E.k + j) v = E.flat (l.set k y) := by
  apply List.ext_getElem?
  intro m
  by_cases hm : m < l.length * E.k
  · have hp := E.pos
    obtain ⟨i, r, hi, hr, rfl⟩ : ∃ i r, i < l.length ∧ r < E.k ∧ m = i * E.k + r :=
      ⟨m / E.k, m % E.k, Nat.div_lt_of_lt_mul (by rw [Nat.mul_comm]; exact hm), Nat.mod_lt _ hp, by rw [Nat.mul_comm]; exact (Nat.div_add_mod m E.k).symm⟩
    rw [E.flat_get (by rw [List.length_set]; exact hi) hr]
    by_cases hik : i = k
    · subst hik
      rw [List.getElem_set_self, hy]
      by_cases hrj : r = j
      · subst hrj
        rw [List.getElem?_set_self (by rw [E.flat_len]; exact hm), List.getElem?_set_self (by rw [E.len]; exact hj)]
      · rw [List.getElem?_set_ne (by omega), List.getElem?_set_ne (by omega), E.flat_get hi hr]
    · have hne : k * E.k + j ≠ i * E.k + r := by
        intro e
        have h1 : (k * E.k + j) / E.k = k := by rw [Nat.mul_comm, Nat.mul_add_div hp, Nat.div_eq_of_lt hj, Nat.add_zero]
        have h2 : (i * E.k + r) / E.k = i := by rw [Nat.mul_comm, Nat.mul_add_div hp, Nat.div_eq_of_lt hr, Nat.add_zero]
        rw [e, h2] at h1
        exact hik h1
      rw [List.getElem?_set_ne hne, List.getElem_set_ne (by omega), E.flat_get hi hr]
  · rw [List.getElem?_eq_none (by rw [List.length_set, E.flat_len]; omega), List.getElem?_eq_none (by rw [E.flat_len, List.length_set]; omega)]
/-- A store into a slice of the call's own. -/
theorem Ow.set1 {α : Type} {w : World} {F : Nat → Prop} {e : TypeId} {E : Enc α} {g n c : Nat} {l : List α} (h : Ow w F e E (.slice (some ⟨g, 0, none⟩) n c) l) {k j : Nat} {y : α} {v : Value} (hk : k < l.length) (hj : j < E.k) (hy : E.f y = (E.f l[k]).set j v) :
    Ow (w.setCell ⟨g, k * E.k + j, none⟩ v) F e E (.slice (some ⟨g, 0, none⟩) n c) (l.set k y) := by
  have hn := h.cap.1
  obtain ⟨g', row, e1, B, hF, -, hnc, hc, hrs, ht⟩ := h.cases (by omega)
  simp only [Option.some.injEq, Addr.mk.injEq, and_true] at e1
  subst e1
  have hB := obj_setCell (i := k * E.k + j) B v
  subst hn
  have hlen : (l.set k y).length = l.length := List.length_set
  rw [← hlen]
  refine Ow.row hB hF (by rw [hlen]; exact hnc) hc (by rw [Array.size_setIfInBounds]; exact hrs) ?_
  rw [hlen, Array.toList_setIfInBounds, ← flat_set E hk hj hy, ← ht, List.take_set]
set_option maxHeartbeats 4000000 in
set_option maxRecDepth 100000 in
theorem rgaErase_ok {w : World} {c : CellV} {ve vl vs : Value} (h : CellR w c ve vl vs) (hb : CellB c) (hk : c.kind = 3) (d : Dt) :
    Calls Tryz.prog 76 #[cval c ve vl vs, .agg #[.int .i64 d.1, .int .i64 d.2]] w (CP (eraF c d).1 (eraF c d).2 w) := by
  obtain ⟨he, hl, hs⟩ := h
  have HR := Lib.hid (⟨he, hl, hs⟩ : CellR w c ve vl vs)
  obtain ⟨ae, ce, rfl⟩ := he.sh
  obtain ⟨al, cl, rfl⟩ := hl.sh
  obtain ⟨at_, cs, rfl⟩ := hs.sh
  have hcv : ∀ e l s, cval c e l s = .agg #[.int .i64 3, .bool c.set, .int .i64 c.st.1, .int .i64 c.st.2, .string c.value, .int .i64 c.num.1, .int .i64 c.num.2, e, l, s] := by intro e l s; unfold cval; rw [hk]
  rw [hcv]
  have HV := Lib.hid hcv
  have HK := Lib.hid hk
  have HB := Lib.hid hb
  clear he hl hs hb hk hcv
  have B0 : (((w.alloc (.cells #[.int .i64 3, .bool c.set, .int .i64 c.st.1, .int .i64 c.st.2, .string c.value, .int .i64 c.num.1, .int .i64 c.num.2, .slice ae c.ents.length ce, .slice al c.elems.length cl, .slice at_ c.seen.length cs] 75)).alloc (.cells #[.int .i64 d.1, .int .i64 d.2] 83)).alloc (.cells zlist.toArray 75)).heap[w.heap.size]? = some (.cells #[.int .i64 3, .bool c.set, .int .i64 c.st.1, .int .i64 c.st.2, .string c.value, .int .i64 c.num.1, .int .i64 c.num.2, .slice ae c.ents.length ce, .slice al c.elems.length cl, .slice at_ c.seen.length cs] 75 (0, 0)) := al_old (al_old (heap_alloc_new w _))
  have D0 : (((w.alloc (.cells #[.int .i64 3, .bool c.set, .int .i64 c.st.1, .int .i64 c.st.2, .string c.value, .int .i64 c.num.1, .int .i64 c.num.2, .slice ae c.ents.length ce, .slice al c.elems.length cl, .slice at_ c.seen.length cs] 75)).alloc (.cells #[.int .i64 d.1, .int .i64 d.2] 83)).alloc (.cells zlist.toArray 75)).heap[w.heap.size + 1]? = some (.cells #[.int .i64 d.1, .int .i64 d.2] 83 (0, 0)) := al_old (al_at (by simp))
  have C0 : (((w.alloc (.cells #[.int .i64 3, .bool c.set, .int .i64 c.st.1, .int .i64 c.st.2, .string c.value, .int .i64 c.num.1, .int .i64 c.num.2, .slice ae c.ents.length ce, .slice al c.elems.length cl, .slice at_ c.seen.length cs] 75)).alloc (.cells #[.int .i64 d.1, .int .i64 d.2] 83)).alloc (.cells zlist.toArray 75)).heap[w.heap.size + 2]? = some (.cells zlist.toArray 75 (0, 0)) := al_at (by simp)
  have F0 : Frm No w (((w.alloc (.cells #[.int .i64 3, .bool c.set, .int .i64 c.st.1, .int .i64 c.st.2, .string c.value, .int .i64 c.num.1, .int .i64 c.num.2, .slice ae c.ents.length ce, .slice al c.elems.length cl, .slice at_ c.seen.length cs] 75)).alloc (.cells #[.int .i64 d.1, .int .i64 d.2] 83)).alloc (.cells zlist.toArray 75)) := (((Frm.refl No w).al _).al _).al _
  have hlt := findEl_lt c.elems d
  have hf := find_ok B0 rfl (HR.out.no F0).l d
  obtain ⟨u, hu⟩ : ∃ u, Hid (u = findEl c.elems d) := ⟨_, Lib.hid rfl⟩
  rw [← hu.out] at hf hlt
  have HF := Lib.hid hf
  clear hf
  have hE : Hid (eraF c d = if u < 0 then ((zeroC, 1001) : CellV × Int) else ({ c with elems := setGone c.elems u.toNat }, 0)) := Lib.hid (by rw [hu.out]; rfl)
  go_enter Tryz.func76, Tryz.ntmps76
  go_wp2_with (fail)
  refine HF.out.mono ?_
  rintro e w3 ⟨rfl, f3⟩
  have F3 := F0.trans f3
  have B3 := f3.obj B0 id
  have C3 := f3.obj C0 id
  clear f3 B0 D0 C0 F0 HF
  by_cases hu0 : u < 0
  · have hRz : Hid (eraF c d = (zeroC, 1001)) := Lib.hid (by rw [hE.out, if_pos hu0])
    go_wp2_with (refine wpList_sto _ rfl (.tmp 4) (.tmp 15) 75 rfl C3 (by kernel_rfl) (by rfl) zone rfl rfl ?_)
    intro w7 C7 f7 z7
    obtain ⟨t0, t1, t2, t3, t4, t5, t6, t7, t8, t9⟩ := obj10 C7
    go_wp2
    refine bodyPost_ret (v := .tuple #[zval, .int .i64 1001]) (by simp [results, Tryz.results76, go_sem, zval, *]) rfl ?_
    rw [hRz.out]
    exact zval_cp ⟨rfl, F3.then f7 fun k hk e => by omega⟩
  obtain ⟨k, hk⟩ : ∃ k : Nat, u = k := ⟨u.toNat, by omega⟩
  subst hk
  have hkl : k < c.elems.length := by omega
  have hRz : Hid (eraF c d = ({ c with elems := setGone c.elems k }, 0)) := Lib.hid (by rw [hE.out, if_neg hu0]; rfl)
  clear hE hlt
  have n3 : w.heap.size + 2 < w3.heap.size := lt_of_block C3
  have n30 : w.heap.size < w3.heap.size := lt_of_block B3
  obtain ⟨p0, p1, p2, p3, p4, p5, p6, p7, p8, p9⟩ := obj10 B3
  have hcp := lwwCopy_ok (HR.out.no F3) HB.out
  rw [HV.out] at hcp
  go_wp2_with (fail)
  refine hcp.mono ?_
  rintro e w4 ⟨ve', vl', vs', rfl, o4, f4⟩
  obtain ⟨a4, c4, rfl⟩ := o4.e.sh
  obtain ⟨a5, c5, rfl⟩ := o4.l.sh
  obtain ⟨a6, c6, rfl⟩ := o4.s.sh
  rw [HV.out]
  obtain ⟨g, row, hg, -, hFg, -, hnc5, -⟩ := o4.l.cases (by omega)
  subst hg
  have hFg' : w3.heap.size ≤ g ∧ g < w4.heap.size := hFg.elim (fun h => h.elim) id
  have F4 := F3.next f4
  have z4 := f4.size
  have B4 := f4.obj B3 id
  have C4 := f4.obj C3 id
  clear hcp p0 p1 p2 p3 p4 p5 p6 p7 p8 p9 B3 C3 F3 hFg
  have hone : ∀ (v1 v2 v3 : Value), v1.oneCell' = true → v2.oneCell' = true → v3.oneCell' = true → ∀ u ∈ [Value.int .i64 3, .bool c.set, .int .i64 c.st.1, .int .i64 c.st.2, .string c.value, .int .i64 c.num.1, .int .i64 c.num.2, v1, v2, v3], u.oneCell' = true := by
    intro v1 v2 v3 h1 h2 h3 u hu
    simp only [List.mem_cons, List.not_mem_nil, or_false] at hu
    rcases hu with rfl | rfl | rfl | rfl | rfl | rfl | rfl | rfl | rfl | rfl <;> first | rfl | assumption
  go_wp2_with (refine wpList_sto _ rfl (.tmp 2) (.tmp 17) 75 rfl B4 (by kernel_rfl) (by rfl) (hone (.slice a4 c.ents.length c4) (.slice (some ⟨g, 0, none⟩) c.elems.length c5) (.slice a6 c.seen.length c6) rfl rfl rfl) rfl rfl ?_)
  intro w5 B5 f5 z5
  have C5 := f5.obj C4 (by omega)
  have hty : ∀ t k, Ty w4 t (Nw No w3 w4) k → w3.heap.size ≤ k ∧ k < w4.heap.size := fun t k h => by rcases h.1 with hk | hk; exact hk.elim; exact hk
  have o5 := o4.l.ty.frm f5 fun k hk e => by have := hty _ k hk; omega
  have l5 := o4.e.ty.frm f5 fun k hk e => by have := hty _ k hk; omega
  have s5 := o4.s.ty.frm f5 fun k hk e => by have := hty _ k hk; omega
  obtain ⟨g', row', hg', R5, hFr, -, -, -, hrs, -⟩ := o5.cases (by omega)
  simp only [Option.some.injEq, Addr.mk.injEq, and_true] at hg'
  subst hg'
  obtain ⟨q0, q1, q2, q3, q4, q5, q6, q7, q8, q9⟩ := obj10 B5
  have n5 : w.heap.size < w5.heap.size := lt_of_block B5
  have g5 : g < w5.heap.size := lt_of_block R5
  have fz : ∀ i, w5.frozen? ⟨g, i, none⟩ = false := obj_frz R5
  have rsz : row'.size = c5 * 5 := hrs
  have hin4 : k * 5 + 4 < row'.size := by omega
  have hin3 : k * 5 + 3 < row'.size := by omega
  have v4 : w5.cell? ⟨g, k * 5 + 4, none⟩ = some row'[k * 5 + 4] := by rw [obj_cell R5]; exact Array.getElem?_eq_getElem hin4
  have v3 : w5.cell? ⟨g, k * 5 + 3, none⟩ = some row'[k * 5 + 3] := by rw [obj_cell R5]; exact Array.getElem?_eq_getElem hin3
  have hgne : ¬ g = w.heap.size := by omega
  have hgC : ¬ g = w.heap.size + 2 := by omega
  have n52 : w.heap.size + 2 < w5.heap.size := lt_of_block C5
  go_wp2_with (refine wpList_sto _ rfl (.tmp 4) (.tmp 28) 75 rfl (obj_setCell_ne (obj_setCell_ne C5 (by omega) _) (by omega) _) (by kernel_rfl) (by rfl) (hone (.slice a4 c.ents.length c4) (.slice (some ⟨g, 0, none⟩) c.elems.length c5) (.slice a6 c.seen.length c6) rfl rfl rfl) rfl rfl ?_)
  intro w7 C7 f7 z7
  obtain ⟨t0, t1, t2, t3, t4, t5, t6, t7, t8, t9⟩ := obj10 C7
  clear q0 q1 q2 q3 q4 q5 q6 q7 q8 q9
  go_wp2
  refine bodyPost_ret (v := .tuple #[.agg #[.int .i64 3, .bool c.set, .int .i64 c.st.1, .int .i64 c.st.2, .string c.value, .int .i64 c.num.1, .int .i64 c.num.2, .slice a4 c.ents.length c4, .slice (some ⟨g, 0, none⟩) c.elems.length c5, .slice a6 c.seen.length c6], .int .i64 0]) (by simp [results, Tryz.results76, go_sem, *]) rfl ?_
  have hx : c.elems.getD k (0, 0, 0, ⟨#[]⟩, false) = c.elems[k] := gd hkl
  have o6 := (Ow.set1 o5 (k := k) (j := 4) (y := (c.elems[k].1, c.elems[k].2.1, c.elems[k].2.2.1, c.elems[k].2.2.2.1, true)) (v := .bool true) hkl (by decide) rfl)
  have o7 := Ow.set1 o6 (k := k) (j := 3) (y := goneEl c.elems[k]) (v := .string ⟨#[]⟩) (by rw [List.length_set]; exact hkl) (by decide) (by rw [List.getElem_set_self]; rfl)
  rw [List.set_set] at o7
  have G57 : Frm (fun k => w3.heap.size ≤ k ∧ k < w4.heap.size) w5 ((w5.setCell ⟨g, k * 5 + 4, none⟩ (.bool true)).setCell ⟨g, k * 5 + 3, none⟩ (.string ⟨#[]⟩)) := (Frm.setCell (F := fun k => w3.heap.size ≤ k ∧ k < w4.heap.size) w5 ⟨g, k * 5 + 4, none⟩ _ hFg').trans (Frm.setCell (F := fun k => w3.heap.size ≤ k ∧ k < w4.heap.size) _ ⟨g, k * 5 + 3, none⟩ _ hFg')
  have hTg : Ty w4 91 (Nw No w3 w4) g := hFr
  have GT : Frm (fun k => k = g) w5 ((w5.setCell ⟨g, k * 5 + 4, none⟩ (.bool true)).setCell ⟨g, k * 5 + 3, none⟩ (.string ⟨#[]⟩)) := (Frm.setCell (F := fun k => k = g) w5 ⟨g, k * 5 + 4, none⟩ _ rfl).trans (Frm.setCell (F := fun k => k = g) _ ⟨g, k * 5 + 3, none⟩ _ rfl)
  have l6 := l5.frm GT fun k hk e => by subst e; exact hk.apart (by decide) hTg
  have s6 := s5.frm GT fun k hk e => by subst e; exact hk.apart (by decide) hTg
  have G6 : Frm (fun k => k < w3.heap.size) ((w5.setCell ⟨g, k * 5 + 4, none⟩ (.bool true)).setCell ⟨g, k * 5 + 3, none⟩ (.string ⟨#[]⟩)) w7 := f7.mono fun k _ e => by omega
  have M : ∀ k, w3.heap.size ≤ k → ¬ k < w3.heap.size := fun k h => by omega
  have e7 := (o7.mono (G := fun k => w3.heap.size ≤ k) fun k hk h => (hty _ _ h).1).frm G6 M
  have l7 := (l6.mono (G := fun k => w3.heap.size ≤ k) fun k hk h => (hty _ _ h).1).frm G6 M
  have s7 := (s6.mono (G := fun k => w3.heap.size ≤ k) fun k hk h => (hty _ _ h).1).frm G6 M
  have z3 : w.heap.size ≤ w3.heap.size := by omega
  rw [hRz.out]
  refine ⟨_, .slice (some ⟨g, 0, none⟩) c.elems.length c5, _, ?_, ⟨l7.fin z3, ?_, s7.fin z3⟩, ((F4.then f5 fun k hk h => by omega).then G57 fun k hk hh => by omega).then f7 fun k hk hh => by omega⟩
  · unfold cval
    dsimp only
    rw [HK.out]
  · unfold setGone
    dsimp only
    rw [hx]
    exact e7.fin z3
end Go.Proofs.YtgpdpalhkkjmiaaGreatDoor

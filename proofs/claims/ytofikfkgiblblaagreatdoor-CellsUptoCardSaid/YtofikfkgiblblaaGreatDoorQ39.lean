/- Merged: Does. -/
import Derived.Test.YtofikfkgiblblaaGreatDoorQ35
import Derived.Test.YtofikfkgiblblaaGreatDoorQ36
import Derived.Test.YtofikfkgiblblaaGreatDoorQ37
import Derived.Test.YtofikfkgiblblaaGreatDoorQ38
/- Layer 12: cell.does: what an operation does. -/
namespace Go.Proofs.YtofikfkgiblblaaGreatDoor
set_option linter.unusedVariables false
set_option linter.unusedSimpArgs false
set_option linter.unusedVariables false
set_option linter.unusedSimpArgs false
open Go.RowKit Go.Lib Go.Tt Go.Shelf
/-- What Put gives, of a set. -/
def putF (c : CellV) (d : Dt) (v : ByteArray) : CellV × Int := if c.ents.any (fun e => decide ((e.1, e.2.1) = d)) = true then (zeroC, 900) else ({ c with ents := putEn c.ents d v }, 0)
theorem putF_ok {w : World} {c : CellV} {ve vl vs : Value} (h : CellR w c ve vl vs) (hb : CellB c) (hk : c.kind = 2) {d : Dt} (hd : dotMay d = true) {v : ByteArray} (hv : v.size ≤ 256) :
    Calls Tryz.prog 68 #[cval c ve vl vs, .agg #[.int .i64 d.1, .int .i64 d.2], .string v] w (CP (putF c d v).1 (putF c d v).2 w) := by
  rcases ha : c.ents.any (fun e => decide ((e.1, e.2.1) = d)) with _ | _
  · have e : putF c d v = ({ c with ents := putEn c.ents d v }, 0) := by unfold putF; rw [if_neg (by rw [ha]; decide)]
    rw [e]
    refine put_ok h hb hk d hd v hv (fun x hx e => ?_) (room_of hb)
    have := List.any_eq_false.1 ha x hx
    exact this (decide_eq_true e)
  · have e : putF c d v = (zeroC, 900) := by unfold putF; rw [if_pos ha]
    rw [e]
    obtain ⟨x, hx, hx2⟩ := List.any_eq_true.1 ha
    exact (put_bad h d v (by unfold maxLen; omega) (.inr (.inr (.inr ⟨x, hx, of_decide_eq_true hx2⟩)))).mono fun _ _ h => zval_cp h
/-- What Drop gives, of a set. -/
def dropF (c : CellV) (ds : List Dt) : CellV × Int := ({ c with ents := dropped c.ents ds }, 0)
theorem dropF_ok {w : World} {c : CellV} {ve vl vs : Value} (h : CellR w c ve vl vs) (hb : CellB c) (hk : c.kind = 2) {ad : Option Addr} {nd cd : Nat} {ds : List Dt} (hd : RdS w eDt (.slice ad nd cd) ds) :
    Calls Tryz.prog 69 #[cval c ve vl vs, .slice ad nd cd] w (CP (dropF c ds).1 (dropF c ds).2 w) := drop_ok h hb hk hd
/-- The element that an operation inserts. -/
def elOf (o : OpV) : El := (o.dot.1, o.dot.2, o.time, o.value, false)
/-- What an operation does, without what was seen. -/
def effF (c : CellV) (o : OpV) : CellV × Int :=
  if o.kind = 0 then setF c (o.time, o.dot.1) o.value
  else if o.kind = 1 then addF c o.num
  else if o.kind = 2 then putF c o.dot o.value
  else if o.kind = 3 then dropF c o.dots
  else if o.kind = 4 then insF c (elOf o) o.ref
  else eraF c o.ref
set_option maxHeartbeats 4000000 in
set_option maxRecDepth 100000 in
theorem does_ok {w : World} {c : CellV} {ve vl vs : Value} (h : CellR w c ve vl vs) (hb : CellB c) {b : Nat} {o : OpV} {vd vo : Value} (hOb : w.heap[b]? = some (.cells (opCells o vd vo) 35 (0, 0))) (hO : OpR w o vd vo)
    (hk : c.kind = kindOf o) (hk0 : 0 ≤ o.kind ∧ o.kind ≤ 5) (hd : dotMay o.dot = true) (ht : timeMay o.time = true) (hv : (o.kind = 0 ∨ o.kind = 2 ∨ o.kind = 4) → o.value.size ≤ 256) :
    Calls Tryz.prog 29 #[cval c ve vl vs, .pointer (some ⟨b, 0, none⟩)] w (CP (effF c o).1 (effF c o).2 w) := by
  obtain ⟨he, hl, hs⟩ := h
  have HR := Lib.hid (⟨he, hl, hs⟩ : CellR w c ve vl vs)
  obtain ⟨ae, ce, rfl⟩ := he.sh
  obtain ⟨al, cl, rfl⟩ := hl.sh
  obtain ⟨at_, cs, rfl⟩ := hs.sh
  obtain ⟨ad, cd, rfl⟩ := hO.d.sh
  obtain ⟨ao, co, rfl⟩ := hO.s.sh
  have HB := Lib.hid hb
  have HO := Lib.hid hO
  have HD := Lib.hid (of_decide_eq_true hd)
  have HDM := Lib.hid hd
  have HT := Lib.hid ht
  have B0 : ((w.alloc (.cells #[.int .i64 c.kind, .bool c.set, .int .i64 c.st.1, .int .i64 c.st.2, .string c.value, .int .i64 c.num.1, .int .i64 c.num.2, .slice ae c.ents.length ce, .slice al c.elems.length cl, .slice at_ c.seen.length cs] 30)).alloc (.cells zlist.toArray 30)).heap[w.heap.size]? = some (.cells #[.int .i64 c.kind, .bool c.set, .int .i64 c.st.1, .int .i64 c.st.2, .string c.value, .int .i64 c.num.1, .int .i64 c.num.2, .slice ae c.ents.length ce, .slice al c.elems.length cl, .slice at_ c.seen.length cs] 30 (0, 0)) := al_old (heap_alloc_new w _)
  have C0 : ((w.alloc (.cells #[.int .i64 c.kind, .bool c.set, .int .i64 c.st.1, .int .i64 c.st.2, .string c.value, .int .i64 c.num.1, .int .i64 c.num.2, .slice ae c.ents.length ce, .slice al c.elems.length cl, .slice at_ c.seen.length cs] 30)).alloc (.cells zlist.toArray 30)).heap[w.heap.size + 1]? = some (.cells zlist.toArray 30 (0, 0)) := al_at (by simp)
  obtain ⟨q0, q1, q2, q3, q4, q5, q6, q7, q8, q9, q10, q11, q12, q13⟩ := obj14 (show w.heap[b]? = some (.cells #[.int .i64 o.dot.1, .int .i64 o.dot.2, .int .i64 o.time, .slice ad o.deps.length cd, .int .i64 o.kind, .string o.type, .string o.id, .string o.field, .string o.value, .int .i64 o.num.1, .int .i64 o.num.2, .int .i64 o.ref.1, .int .i64 o.ref.2, .slice ao o.dots.length co] 35 (0, 0)) from hOb)
  have nb := lt_of_block hOb
  have hcval : cval c (.slice ae c.ents.length ce) (.slice al c.elems.length cl) (.slice at_ c.seen.length cs) = .agg #[.int .i64 c.kind, .bool c.set, .int .i64 c.st.1, .int .i64 c.st.2, .string c.value, .int .i64 c.num.1, .int .i64 c.num.2, .slice ae c.ents.length ce, .slice al c.elems.length cl, .slice at_ c.seen.length cs] := rfl
  rw [hcval]
  clear he hl hs hb hO hOb hd ht hcval
  unfold kindOf at hk
  have hcs : o.kind = 0 ∨ o.kind = 1 ∨ o.kind = 2 ∨ o.kind = 3 ∨ o.kind = 4 ∨ o.kind = 5 := by omega
  clear hk0
  rcases hcs with k0' | k1' | k2' | k3' | k4' | k5'
  · have hck : c.kind = 0 := by rw [hk, k0']; rfl
    have hr : Hid (effF c o = (setF c (o.time, o.dot.1) o.value)) := Lib.hid (by unfold effF; simp [k0'])
    have hcv : Hid (cval c (.slice ae c.ents.length ce) (.slice al c.elems.length cl) (.slice at_ c.seen.length cs) = .agg #[.int .i64 0, .bool c.set, .int .i64 c.st.1, .int .i64 c.st.2, .string c.value, .int .i64 c.num.1, .int .i64 c.num.2, .slice ae c.ents.length ce, .slice al c.elems.length cl, .slice at_ c.seen.length cs]) := Lib.hid (by unfold cval; rw [hck])
    have HVA := Lib.hid (hv (by rw [k0']; decide))
    have F1 : Frm No w ((w.alloc (.cells #[.int .i64 c.kind, .bool c.set, .int .i64 c.st.1, .int .i64 c.st.2, .string c.value, .int .i64 c.num.1, .int .i64 c.num.2, .slice ae c.ents.length ce, .slice al c.elems.length cl, .slice at_ c.seen.length cs] 30)).alloc (.cells zlist.toArray 30)).drew := (((Frm.refl No w).al _).al _).trans (Frm.drew No _)
    have HC := lwwSet_ok (s := (o.time, o.dot.1)) (HR.out.no F1) HB.out hck HT.out (by exact ⟨HD.out.1, HD.out.2.1⟩) HVA.out
    rw [hcv.out] at HC
    have HC := Lib.hid HC
    rw [k0'] at q4
    rw [hck] at C0 B0 HC F1 ⊢
    obtain ⟨p0, p1, p2, p3, p4, p5, p6, p7, p8, p9⟩ := obj10 B0
    clear hck k0' hv hk
    go_enter Tryz.func29, Tryz.ntmps29
    go_wp2_with (fail)
    refine wp_region_plan [([0, 1, 2, 3, 4, 5, 6, 7, 8, 9, 11, 12, 13, 14, 10], [14, 0]), ([15, 16, 17, 18, 19], [])] 95 (by kernel_rfl) (by kernel_rfl) (by simp) ?_
    intro N hN
    simp only [wpSegs, List.map_cons, List.map_nil, List.getD_cons_zero, List.getD_cons_succ]
    go_wp2_with (fail)
    refine ⟨again_cons (again_of rfl rfl ?_) (again_cons (again_of rfl rfl ?_) again_nil), ?_⟩
    · go_simp
    · go_simp
    go_wp2_with (fail)
    refine HC.out.mono ?_
    rintro e w1 ⟨ve', vl', vs', rfl, o1, f1⟩
    have C1 := f1.obj (show ((w.alloc (.cells #[.int .i64 0, .bool c.set, .int .i64 c.st.1, .int .i64 c.st.2, .string c.value, .int .i64 c.num.1, .int .i64 c.num.2, .slice ae c.ents.length ce, .slice al c.elems.length cl, .slice at_ c.seen.length cs] 30)).alloc (.cells zlist.toArray 30)).drew.heap[w.heap.size + 1]? = _ from C0) id
    have G1 := F1.trans f1
    have z1 := f1.size
    obtain ⟨C, hC⟩ : ∃ C, Hid (C = (effF c o).1) := ⟨_, Lib.hid rfl⟩
    obtain ⟨E, hE⟩ : ∃ E, Hid (E = (effF c o).2) := ⟨_, Lib.hid rfl⟩
    have o2 : CellO w1 (fun k => w.heap.size + 2 ≤ k) C ve' vl' vs' := by
      rw [hC.out, hr.out]
      exact o1.mono fun k _ h => by
        rcases h with h | h
        · exact h.elim
        · have := h.1; simp at this; omega
    obtain ⟨a4, c4, rfl⟩ := o2.e.sh
    obtain ⟨a5, c5, rfl⟩ := o2.l.sh
    obtain ⟨a6, c6, rfl⟩ := o2.s.sh
    have hcw : ∀ (x y z : Value), cval (setF c (o.time, o.dot.1) o.value).1 x y z = .agg #[.int .i64 C.kind, .bool C.set, .int .i64 C.st.1, .int .i64 C.st.2, .string C.value, .int .i64 C.num.1, .int .i64 C.num.2, x, y, z] := fun x y z => by rw [hC.out, hr.out]; rfl
    have hE' : (setF c (o.time, o.dot.1) o.value).2 = E := by rw [hE.out, hr.out]
    rw [hcw, hE']
    have nC := lt_of_block C1
    clear p0 p1 p2 p3 p4 p5 p6 p7 p8 p9 q3 q4 q8 q9 q10 q11 q12 q13 o1 HC hcw hE' f1 B0 C0
    go_wp2_with (refine wpList_sto _ rfl (.tmp 4) (.tmp 28) 30 rfl C1 (by kernel_rfl) (by rfl) (vs := [.int .i64 C.kind, .bool C.set, .int .i64 C.st.1, .int .i64 C.st.2, .string C.value, .int .i64 C.num.1, .int .i64 C.num.2, .slice a4 C.ents.length c4, .slice a5 C.elems.length c5, .slice a6 C.seen.length c6]) (by intro u hu; simp only [List.mem_cons, List.not_mem_nil, or_false] at hu; rcases hu with rfl | rfl | rfl | rfl | rfl | rfl | rfl | rfl | rfl | rfl <;> rfl) rfl rfl ?_)
    intro w7 C7 f7 z7
    obtain ⟨t0, t1, t2, t3, t4, t5, t6, t7, t8, t9⟩ := obj10 C7
    go_wp2
    refine bodyPost_ret (v := .tuple #[.agg #[.int .i64 C.kind, .bool C.set, .int .i64 C.st.1, .int .i64 C.st.2, .string C.value, .int .i64 C.num.1, .int .i64 C.num.2, .slice a4 C.ents.length c4, .slice a5 C.elems.length c5, .slice a6 C.seen.length c6], .int .i64 E]) (by simp [results, Tryz.results29, go_sem, *]) rfl ?_
    have o3 := (o2.frm f7 fun k hk e => by omega)
    rw [← hC.out, ← hE.out]
    exact ⟨_, _, _, rfl, ⟨(o3.e.mono fun k _ h => (by omega : w.heap.size ≤ k)).fin (Nat.le_refl _), (o3.l.mono fun k _ h => (by omega : w.heap.size ≤ k)).fin (Nat.le_refl _), (o3.s.mono fun k _ h => (by omega : w.heap.size ≤ k)).fin (Nat.le_refl _)⟩, G1.then f7 fun k hk e => by omega⟩
  · have hck : c.kind = 1 := by rw [hk, k1']; rfl
    have hr : Hid (effF c o = (addF c o.num)) := Lib.hid (by unfold effF; simp [k1'])
    have hcv : Hid (cval c (.slice ae c.ents.length ce) (.slice al c.elems.length cl) (.slice at_ c.seen.length cs) = .agg #[.int .i64 1, .bool c.set, .int .i64 c.st.1, .int .i64 c.st.2, .string c.value, .int .i64 c.num.1, .int .i64 c.num.2, .slice ae c.ents.length ce, .slice al c.elems.length cl, .slice at_ c.seen.length cs]) := Lib.hid (by unfold cval; rw [hck])
    have F1 : Frm No w ((w.alloc (.cells #[.int .i64 c.kind, .bool c.set, .int .i64 c.st.1, .int .i64 c.st.2, .string c.value, .int .i64 c.num.1, .int .i64 c.num.2, .slice ae c.ents.length ce, .slice al c.elems.length cl, .slice at_ c.seen.length cs] 30)).alloc (.cells zlist.toArray 30)).drew := (((Frm.refl No w).al _).al _).trans (Frm.drew No _)
    have HC := countAdd_ok (HR.out.no F1) HB.out hck o.num
    rw [hcv.out] at HC
    have HC := Lib.hid HC
    rw [k1'] at q4
    rw [hck] at C0 B0 HC F1 ⊢
    obtain ⟨p0, p1, p2, p3, p4, p5, p6, p7, p8, p9⟩ := obj10 B0
    clear hck k1' hv hk
    go_enter Tryz.func29, Tryz.ntmps29
    go_wp2_with (fail)
    refine wp_region_plan [([0, 1, 2, 3, 4, 5, 6, 7, 8, 9], [])] 95 (by kernel_rfl) (by kernel_rfl) (by simp) ?_
    intro N hN
    simp only [wpSegs, List.map_cons, List.map_nil, List.getD_cons_zero, List.getD_cons_succ]
    go_wp2_with (fail)
    refine HC.out.mono ?_
    rintro e w1 ⟨ve', vl', vs', rfl, o1, f1⟩
    have C1 := f1.obj (show ((w.alloc (.cells #[.int .i64 1, .bool c.set, .int .i64 c.st.1, .int .i64 c.st.2, .string c.value, .int .i64 c.num.1, .int .i64 c.num.2, .slice ae c.ents.length ce, .slice al c.elems.length cl, .slice at_ c.seen.length cs] 30)).alloc (.cells zlist.toArray 30)).drew.heap[w.heap.size + 1]? = _ from C0) id
    have G1 := F1.trans f1
    have z1 := f1.size
    obtain ⟨C, hC⟩ : ∃ C, Hid (C = (effF c o).1) := ⟨_, Lib.hid rfl⟩
    obtain ⟨E, hE⟩ : ∃ E, Hid (E = (effF c o).2) := ⟨_, Lib.hid rfl⟩
    have o2 : CellO w1 (fun k => w.heap.size + 2 ≤ k) C ve' vl' vs' := by
      rw [hC.out, hr.out]
      exact o1.mono fun k _ h => by
        rcases h with h | h
        · exact h.elim
        · have := h.1; simp at this; omega
    obtain ⟨a4, c4, rfl⟩ := o2.e.sh
    obtain ⟨a5, c5, rfl⟩ := o2.l.sh
    obtain ⟨a6, c6, rfl⟩ := o2.s.sh
    have hcw : ∀ (x y z : Value), cval (addF c o.num).1 x y z = .agg #[.int .i64 C.kind, .bool C.set, .int .i64 C.st.1, .int .i64 C.st.2, .string C.value, .int .i64 C.num.1, .int .i64 C.num.2, x, y, z] := fun x y z => by rw [hC.out, hr.out]; rfl
    have hE' : (addF c o.num).2 = E := by rw [hE.out, hr.out]
    rw [hcw, hE']
    have nC := lt_of_block C1
    clear p0 p1 p2 p3 p4 p5 p6 p7 p8 p9 q3 q4 q8 q9 q10 q11 q12 q13 o1 HC hcw hE' f1 B0 C0
    go_wp2_with (refine wpList_sto _ rfl (.tmp 4) (.tmp 38) 30 rfl C1 (by kernel_rfl) (by rfl) (vs := [.int .i64 C.kind, .bool C.set, .int .i64 C.st.1, .int .i64 C.st.2, .string C.value, .int .i64 C.num.1, .int .i64 C.num.2, .slice a4 C.ents.length c4, .slice a5 C.elems.length c5, .slice a6 C.seen.length c6]) (by intro u hu; simp only [List.mem_cons, List.not_mem_nil, or_false] at hu; rcases hu with rfl | rfl | rfl | rfl | rfl | rfl | rfl | rfl | rfl | rfl <;> rfl) rfl rfl ?_)
    intro w7 C7 f7 z7
    obtain ⟨t0, t1, t2, t3, t4, t5, t6, t7, t8, t9⟩ := obj10 C7
    go_wp2
    refine bodyPost_ret (v := .tuple #[.agg #[.int .i64 C.kind, .bool C.set, .int .i64 C.st.1, .int .i64 C.st.2, .string C.value, .int .i64 C.num.1, .int .i64 C.num.2, .slice a4 C.ents.length c4, .slice a5 C.elems.length c5, .slice a6 C.seen.length c6], .int .i64 E]) (by simp [results, Tryz.results29, go_sem, *]) rfl ?_
    have o3 := (o2.frm f7 fun k hk e => by omega)
    rw [← hC.out, ← hE.out]
    exact ⟨_, _, _, rfl, ⟨(o3.e.mono fun k _ h => (by omega : w.heap.size ≤ k)).fin (Nat.le_refl _), (o3.l.mono fun k _ h => (by omega : w.heap.size ≤ k)).fin (Nat.le_refl _), (o3.s.mono fun k _ h => (by omega : w.heap.size ≤ k)).fin (Nat.le_refl _)⟩, G1.then f7 fun k hk e => by omega⟩
  · have hck : c.kind = 2 := by rw [hk, k2']; rfl
    have hr : Hid (effF c o = (putF c o.dot o.value)) := Lib.hid (by unfold effF; simp [k2'])
    have hcv : Hid (cval c (.slice ae c.ents.length ce) (.slice al c.elems.length cl) (.slice at_ c.seen.length cs) = .agg #[.int .i64 2, .bool c.set, .int .i64 c.st.1, .int .i64 c.st.2, .string c.value, .int .i64 c.num.1, .int .i64 c.num.2, .slice ae c.ents.length ce, .slice al c.elems.length cl, .slice at_ c.seen.length cs]) := Lib.hid (by unfold cval; rw [hck])
    have HVA := Lib.hid (hv (by rw [k2']; decide))
    have F1 : Frm No w ((w.alloc (.cells #[.int .i64 c.kind, .bool c.set, .int .i64 c.st.1, .int .i64 c.st.2, .string c.value, .int .i64 c.num.1, .int .i64 c.num.2, .slice ae c.ents.length ce, .slice al c.elems.length cl, .slice at_ c.seen.length cs] 30)).alloc (.cells zlist.toArray 30)).drew := (((Frm.refl No w).al _).al _).trans (Frm.drew No _)
    have HC := putF_ok (HR.out.no F1) HB.out hck HDM.out HVA.out
    rw [hcv.out] at HC
    have HC := Lib.hid HC
    rw [k2'] at q4
    rw [hck] at C0 B0 HC F1 ⊢
    obtain ⟨p0, p1, p2, p3, p4, p5, p6, p7, p8, p9⟩ := obj10 B0
    clear hck k2' hv hk
    go_enter Tryz.func29, Tryz.ntmps29
    go_wp2_with (fail)
    refine wp_region_plan [([0, 1, 2, 3, 4, 5, 6, 7, 8, 9, 10, 11, 12, 13], [])] 95 (by kernel_rfl) (by kernel_rfl) (by simp) ?_
    intro N hN
    simp only [wpSegs, List.map_cons, List.map_nil, List.getD_cons_zero, List.getD_cons_succ]
    go_wp2_with (fail)
    refine HC.out.mono ?_
    rintro e w1 ⟨ve', vl', vs', rfl, o1, f1⟩
    have C1 := f1.obj (show ((w.alloc (.cells #[.int .i64 2, .bool c.set, .int .i64 c.st.1, .int .i64 c.st.2, .string c.value, .int .i64 c.num.1, .int .i64 c.num.2, .slice ae c.ents.length ce, .slice al c.elems.length cl, .slice at_ c.seen.length cs] 30)).alloc (.cells zlist.toArray 30)).drew.heap[w.heap.size + 1]? = _ from C0) id
    have G1 := F1.trans f1
    have z1 := f1.size
    obtain ⟨C, hC⟩ : ∃ C, Hid (C = (effF c o).1) := ⟨_, Lib.hid rfl⟩
    obtain ⟨E, hE⟩ : ∃ E, Hid (E = (effF c o).2) := ⟨_, Lib.hid rfl⟩
    have o2 : CellO w1 (fun k => w.heap.size + 2 ≤ k) C ve' vl' vs' := by
      rw [hC.out, hr.out]
      exact o1.mono fun k _ h => by
        rcases h with h | h
        · exact h.elim
        · have := h.1; simp at this; omega
    obtain ⟨a4, c4, rfl⟩ := o2.e.sh
    obtain ⟨a5, c5, rfl⟩ := o2.l.sh
    obtain ⟨a6, c6, rfl⟩ := o2.s.sh
    have hcw : ∀ (x y z : Value), cval (putF c o.dot o.value).1 x y z = .agg #[.int .i64 C.kind, .bool C.set, .int .i64 C.st.1, .int .i64 C.st.2, .string C.value, .int .i64 C.num.1, .int .i64 C.num.2, x, y, z] := fun x y z => by rw [hC.out, hr.out]; rfl
    have hE' : (putF c o.dot o.value).2 = E := by rw [hE.out, hr.out]
    rw [hcw, hE']
    have nC := lt_of_block C1
    clear p0 p1 p2 p3 p4 p5 p6 p7 p8 p9 q3 q4 q8 q9 q10 q11 q12 q13 o1 HC hcw hE' f1 B0 C0
    go_wp2_with (refine wpList_sto _ rfl (.tmp 4) (.tmp 52) 30 rfl C1 (by kernel_rfl) (by rfl) (vs := [.int .i64 C.kind, .bool C.set, .int .i64 C.st.1, .int .i64 C.st.2, .string C.value, .int .i64 C.num.1, .int .i64 C.num.2, .slice a4 C.ents.length c4, .slice a5 C.elems.length c5, .slice a6 C.seen.length c6]) (by intro u hu; simp only [List.mem_cons, List.not_mem_nil, or_false] at hu; rcases hu with rfl | rfl | rfl | rfl | rfl | rfl | rfl | rfl | rfl | rfl <;> rfl) rfl rfl ?_)
    intro w7 C7 f7 z7
    obtain ⟨t0, t1, t2, t3, t4, t5, t6, t7, t8, t9⟩ := obj10 C7
    go_wp2
    refine bodyPost_ret (v := .tuple #[.agg #[.int .i64 C.kind, .bool C.set, .int .i64 C.st.1, .int .i64 C.st.2, .string C.value, .int .i64 C.num.1, .int .i64 C.num.2, .slice a4 C.ents.length c4, .slice a5 C.elems.length c5, .slice a6 C.seen.length c6], .int .i64 E]) (by simp [results, Tryz.results29, go_sem, *]) rfl ?_
    have o3 := (o2.frm f7 fun k hk e => by omega)
    rw [← hC.out, ← hE.out]
    exact ⟨_, _, _, rfl, ⟨(o3.e.mono fun k _ h => (by omega : w.heap.size ≤ k)).fin (Nat.le_refl _), (o3.l.mono fun k _ h => (by omega : w.heap.size ≤ k)).fin (Nat.le_refl _), (o3.s.mono fun k _ h => (by omega : w.heap.size ≤ k)).fin (Nat.le_refl _)⟩, G1.then f7 fun k hk e => by omega⟩
  · have hck : c.kind = 2 := by rw [hk, k3']; rfl
    have hr : Hid (effF c o = (dropF c o.dots)) := Lib.hid (by unfold effF; simp [k3'])
    have hcv : Hid (cval c (.slice ae c.ents.length ce) (.slice al c.elems.length cl) (.slice at_ c.seen.length cs) = .agg #[.int .i64 2, .bool c.set, .int .i64 c.st.1, .int .i64 c.st.2, .string c.value, .int .i64 c.num.1, .int .i64 c.num.2, .slice ae c.ents.length ce, .slice al c.elems.length cl, .slice at_ c.seen.length cs]) := Lib.hid (by unfold cval; rw [hck])
    have F1 : Frm No w ((w.alloc (.cells #[.int .i64 c.kind, .bool c.set, .int .i64 c.st.1, .int .i64 c.st.2, .string c.value, .int .i64 c.num.1, .int .i64 c.num.2, .slice ae c.ents.length ce, .slice al c.elems.length cl, .slice at_ c.seen.length cs] 30)).alloc (.cells zlist.toArray 30)).drew := (((Frm.refl No w).al _).al _).trans (Frm.drew No _)
    have HC := dropF_ok (HR.out.no F1) HB.out hck (HO.out.no F1).s
    rw [hcv.out] at HC
    have HC := Lib.hid HC
    rw [k3'] at q4
    rw [hck] at C0 B0 HC F1 ⊢
    obtain ⟨p0, p1, p2, p3, p4, p5, p6, p7, p8, p9⟩ := obj10 B0
    clear hck k3' hv hk
    go_enter Tryz.func29, Tryz.ntmps29
    go_wp2_with (fail)
    refine wp_region_plan [([0, 1, 2, 3, 4, 5, 6, 7, 8, 9], [])] 95 (by kernel_rfl) (by kernel_rfl) (by simp) ?_
    intro N hN
    simp only [wpSegs, List.map_cons, List.map_nil, List.getD_cons_zero, List.getD_cons_succ]
    go_wp2_with (fail)
    refine HC.out.mono ?_
    rintro e w1 ⟨ve', vl', vs', rfl, o1, f1⟩
    have C1 := f1.obj (show ((w.alloc (.cells #[.int .i64 2, .bool c.set, .int .i64 c.st.1, .int .i64 c.st.2, .string c.value, .int .i64 c.num.1, .int .i64 c.num.2, .slice ae c.ents.length ce, .slice al c.elems.length cl, .slice at_ c.seen.length cs] 30)).alloc (.cells zlist.toArray 30)).drew.heap[w.heap.size + 1]? = _ from C0) id
    have G1 := F1.trans f1
    have z1 := f1.size
    obtain ⟨C, hC⟩ : ∃ C, Hid (C = (effF c o).1) := ⟨_, Lib.hid rfl⟩
    obtain ⟨E, hE⟩ : ∃ E, Hid (E = (effF c o).2) := ⟨_, Lib.hid rfl⟩
    have o2 : CellO w1 (fun k => w.heap.size + 2 ≤ k) C ve' vl' vs' := by
      rw [hC.out, hr.out]
      exact o1.mono fun k _ h => by
        rcases h with h | h
        · exact h.elim
        · have := h.1; simp at this; omega
    obtain ⟨a4, c4, rfl⟩ := o2.e.sh
    obtain ⟨a5, c5, rfl⟩ := o2.l.sh
    obtain ⟨a6, c6, rfl⟩ := o2.s.sh
    have hcw : ∀ (x y z : Value), cval (dropF c o.dots).1 x y z = .agg #[.int .i64 C.kind, .bool C.set, .int .i64 C.st.1, .int .i64 C.st.2, .string C.value, .int .i64 C.num.1, .int .i64 C.num.2, x, y, z] := fun x y z => by rw [hC.out, hr.out]; rfl
    have hE' : (dropF c o.dots).2 = E := by rw [hE.out, hr.out]
    rw [hcw, hE']
    have nC := lt_of_block C1
    clear p0 p1 p2 p3 p4 p5 p6 p7 p8 p9 q3 q4 q8 q9 q10 q11 q12 q13 o1 HC hcw hE' f1 B0 C0
    go_wp2_with (refine wpList_sto _ rfl (.tmp 4) (.tmp 62) 30 rfl C1 (by kernel_rfl) (by rfl) (vs := [.int .i64 C.kind, .bool C.set, .int .i64 C.st.1, .int .i64 C.st.2, .string C.value, .int .i64 C.num.1, .int .i64 C.num.2, .slice a4 C.ents.length c4, .slice a5 C.elems.length c5, .slice a6 C.seen.length c6]) (by intro u hu; simp only [List.mem_cons, List.not_mem_nil, or_false] at hu; rcases hu with rfl | rfl | rfl | rfl | rfl | rfl | rfl | rfl | rfl | rfl <;> rfl) rfl rfl ?_)
    intro w7 C7 f7 z7
    obtain ⟨t0, t1, t2, t3, t4, t5, t6, t7, t8, t9⟩ := obj10 C7
    go_wp2
    refine bodyPost_ret (v := .tuple #[.agg #[.int .i64 C.kind, .bool C.set, .int .i64 C.st.1, .int .i64 C.st.2, .string C.value, .int .i64 C.num.1, .int .i64 C.num.2, .slice a4 C.ents.length c4, .slice a5 C.elems.length c5, .slice a6 C.seen.length c6], .int .i64 E]) (by simp [results, Tryz.results29, go_sem, *]) rfl ?_
    have o3 := (o2.frm f7 fun k hk e => by omega)
    rw [← hC.out, ← hE.out]
    exact ⟨_, _, _, rfl, ⟨(o3.e.mono fun k _ h => (by omega : w.heap.size ≤ k)).fin (Nat.le_refl _), (o3.l.mono fun k _ h => (by omega : w.heap.size ≤ k)).fin (Nat.le_refl _), (o3.s.mono fun k _ h => (by omega : w.heap.size ≤ k)).fin (Nat.le_refl _)⟩, G1.then f7 fun k hk e => by omega⟩
  · have hck : c.kind = 3 := by rw [hk, k4']; rfl
    have hr : Hid (effF c o = (insF c (elOf o) o.ref)) := Lib.hid (by unfold effF; simp [k4'])
    have hcv : Hid (cval c (.slice ae c.ents.length ce) (.slice al c.elems.length cl) (.slice at_ c.seen.length cs) = .agg #[.int .i64 3, .bool c.set, .int .i64 c.st.1, .int .i64 c.st.2, .string c.value, .int .i64 c.num.1, .int .i64 c.num.2, .slice ae c.ents.length ce, .slice al c.elems.length cl, .slice at_ c.seen.length cs]) := Lib.hid (by unfold cval; rw [hck])
    have HVA := Lib.hid (hv (by rw [k4']; decide))
    have F1 : Frm No w ((w.alloc (.cells #[.int .i64 c.kind, .bool c.set, .int .i64 c.st.1, .int .i64 c.st.2, .string c.value, .int .i64 c.num.1, .int .i64 c.num.2, .slice ae c.ents.length ce, .slice al c.elems.length cl, .slice at_ c.seen.length cs] 30)).alloc (.cells zlist.toArray 30)).drew := (((Frm.refl No w).al _).al _).trans (Frm.drew No _)
    have HC := rgaInsert_ok (x := elOf o) (HR.out.no F1) HB.out hck HDM.out HT.out HVA.out rfl o.ref
    rw [hcv.out] at HC
    have HC := Lib.hid HC
    rw [k4'] at q4
    rw [hck] at C0 B0 HC F1 ⊢
    obtain ⟨p0, p1, p2, p3, p4, p5, p6, p7, p8, p9⟩ := obj10 B0
    clear hck k4' hv hk
    go_enter Tryz.func29, Tryz.ntmps29
    go_wp2_with (fail)
    refine wp_region_plan [([0, 1, 2, 3, 4, 5, 6, 7, 8, 9, 10, 11, 12, 14, 15, 16, 17, 13], [17, 0]), ([18, 19, 20, 21, 22], [])] 95 (by kernel_rfl) (by kernel_rfl) (by simp) ?_
    intro N hN
    simp only [wpSegs, List.map_cons, List.map_nil, List.getD_cons_zero, List.getD_cons_succ]
    go_wp2_with (fail)
    refine ⟨again_cons (again_of rfl rfl ?_) (again_cons (again_of rfl rfl ?_) again_nil), ?_⟩
    · go_simp
    · go_simp
    go_wp2_with (fail)
    refine HC.out.mono ?_
    rintro e w1 ⟨ve', vl', vs', rfl, o1, f1⟩
    have C1 := f1.obj (show ((w.alloc (.cells #[.int .i64 3, .bool c.set, .int .i64 c.st.1, .int .i64 c.st.2, .string c.value, .int .i64 c.num.1, .int .i64 c.num.2, .slice ae c.ents.length ce, .slice al c.elems.length cl, .slice at_ c.seen.length cs] 30)).alloc (.cells zlist.toArray 30)).drew.heap[w.heap.size + 1]? = _ from C0) id
    have G1 := F1.trans f1
    have z1 := f1.size
    obtain ⟨C, hC⟩ : ∃ C, Hid (C = (effF c o).1) := ⟨_, Lib.hid rfl⟩
    obtain ⟨E, hE⟩ : ∃ E, Hid (E = (effF c o).2) := ⟨_, Lib.hid rfl⟩
    have o2 : CellO w1 (fun k => w.heap.size + 2 ≤ k) C ve' vl' vs' := by
      rw [hC.out, hr.out]
      exact o1.mono fun k _ h => by
        rcases h with h | h
        · exact h.elim
        · have := h.1; simp at this; omega
    obtain ⟨a4, c4, rfl⟩ := o2.e.sh
    obtain ⟨a5, c5, rfl⟩ := o2.l.sh
    obtain ⟨a6, c6, rfl⟩ := o2.s.sh
    have hcw : ∀ (x y z : Value), cval (insF c (elOf o) o.ref).1 x y z = .agg #[.int .i64 C.kind, .bool C.set, .int .i64 C.st.1, .int .i64 C.st.2, .string C.value, .int .i64 C.num.1, .int .i64 C.num.2, x, y, z] := fun x y z => by rw [hC.out, hr.out]; rfl
    have hE' : (insF c (elOf o) o.ref).2 = E := by rw [hE.out, hr.out]
    rw [hcw, hE']
    have nC := lt_of_block C1
    clear p0 p1 p2 p3 p4 p5 p6 p7 p8 p9 q3 q4 q8 q9 q10 q11 q12 q13 o1 HC hcw hE' f1 B0 C0
    go_wp2_with (refine wpList_sto _ rfl (.tmp 4) (.tmp 85) 30 rfl C1 (by kernel_rfl) (by rfl) (vs := [.int .i64 C.kind, .bool C.set, .int .i64 C.st.1, .int .i64 C.st.2, .string C.value, .int .i64 C.num.1, .int .i64 C.num.2, .slice a4 C.ents.length c4, .slice a5 C.elems.length c5, .slice a6 C.seen.length c6]) (by intro u hu; simp only [List.mem_cons, List.not_mem_nil, or_false] at hu; rcases hu with rfl | rfl | rfl | rfl | rfl | rfl | rfl | rfl | rfl | rfl <;> rfl) rfl rfl ?_)
    intro w7 C7 f7 z7
    obtain ⟨t0, t1, t2, t3, t4, t5, t6, t7, t8, t9⟩ := obj10 C7
    go_wp2
    refine bodyPost_ret (v := .tuple #[.agg #[.int .i64 C.kind, .bool C.set, .int .i64 C.st.1, .int .i64 C.st.2, .string C.value, .int .i64 C.num.1, .int .i64 C.num.2, .slice a4 C.ents.length c4, .slice a5 C.elems.length c5, .slice a6 C.seen.length c6], .int .i64 E]) (by simp [results, Tryz.results29, go_sem, *]) rfl ?_
    have o3 := (o2.frm f7 fun k hk e => by omega)
    rw [← hC.out, ← hE.out]
    exact ⟨_, _, _, rfl, ⟨(o3.e.mono fun k _ h => (by omega : w.heap.size ≤ k)).fin (Nat.le_refl _), (o3.l.mono fun k _ h => (by omega : w.heap.size ≤ k)).fin (Nat.le_refl _), (o3.s.mono fun k _ h => (by omega : w.heap.size ≤ k)).fin (Nat.le_refl _)⟩, G1.then f7 fun k hk e => by omega⟩
  · have hck : c.kind = 3 := by rw [hk, k5']; rfl
    have hr : Hid (effF c o = (eraF c o.ref)) := Lib.hid (by unfold effF; simp [k5'])
    have hcv : Hid (cval c (.slice ae c.ents.length ce) (.slice al c.elems.length cl) (.slice at_ c.seen.length cs) = .agg #[.int .i64 3, .bool c.set, .int .i64 c.st.1, .int .i64 c.st.2, .string c.value, .int .i64 c.num.1, .int .i64 c.num.2, .slice ae c.ents.length ce, .slice al c.elems.length cl, .slice at_ c.seen.length cs]) := Lib.hid (by unfold cval; rw [hck])
    have F1 : Frm No w ((w.alloc (.cells #[.int .i64 c.kind, .bool c.set, .int .i64 c.st.1, .int .i64 c.st.2, .string c.value, .int .i64 c.num.1, .int .i64 c.num.2, .slice ae c.ents.length ce, .slice al c.elems.length cl, .slice at_ c.seen.length cs] 30)).alloc (.cells zlist.toArray 30)).drew := (((Frm.refl No w).al _).al _).trans (Frm.drew No _)
    have HC := rgaErase_ok (HR.out.no F1) HB.out hck o.ref
    rw [hcv.out] at HC
    have HC := Lib.hid HC
    rw [k5'] at q4
    rw [hck] at C0 B0 HC F1 ⊢
    obtain ⟨p0, p1, p2, p3, p4, p5, p6, p7, p8, p9⟩ := obj10 B0
    clear hck k5' hv hk
    go_enter Tryz.func29, Tryz.ntmps29
    go_wp2_with (fail)
    refine wp_region_plan [([0, 1, 2, 3, 4, 5, 6, 7, 8, 9], [])] 95 (by kernel_rfl) (by kernel_rfl) (by simp) ?_
    intro N hN
    simp only [wpSegs, List.map_cons, List.map_nil, List.getD_cons_zero, List.getD_cons_succ]
    go_wp2_with (fail)
    refine HC.out.mono ?_
    rintro e w1 ⟨ve', vl', vs', rfl, o1, f1⟩
    have C1 := f1.obj (show ((w.alloc (.cells #[.int .i64 3, .bool c.set, .int .i64 c.st.1, .int .i64 c.st.2, .string c.value, .int .i64 c.num.1, .int .i64 c.num.2, .slice ae c.ents.length ce, .slice al c.elems.length cl, .slice at_ c.seen.length cs] 30)).alloc (.cells zlist.toArray 30)).drew.heap[w.heap.size + 1]? = _ from C0) id
    have G1 := F1.trans f1
    have z1 := f1.size
    obtain ⟨C, hC⟩ : ∃ C, Hid (C = (effF c o).1) := ⟨_, Lib.hid rfl⟩
    obtain ⟨E, hE⟩ : ∃ E, Hid (E = (effF c o).2) := ⟨_, Lib.hid rfl⟩
    have o2 : CellO w1 (fun k => w.heap.size + 2 ≤ k) C ve' vl' vs' := by
      rw [hC.out, hr.out]
      exact o1.mono fun k _ h => by
        rcases h with h | h
        · exact h.elim
        · have := h.1; simp at this; omega
    obtain ⟨a4, c4, rfl⟩ := o2.e.sh
    obtain ⟨a5, c5, rfl⟩ := o2.l.sh
    obtain ⟨a6, c6, rfl⟩ := o2.s.sh
    have hcw : ∀ (x y z : Value), cval (eraF c o.ref).1 x y z = .agg #[.int .i64 C.kind, .bool C.set, .int .i64 C.st.1, .int .i64 C.st.2, .string C.value, .int .i64 C.num.1, .int .i64 C.num.2, x, y, z] := fun x y z => by rw [hC.out, hr.out]; rfl
    have hE' : (eraF c o.ref).2 = E := by rw [hE.out, hr.out]
    rw [hcw, hE']
    have nC := lt_of_block C1
    clear p0 p1 p2 p3 p4 p5 p6 p7 p8 p9 q3 q4 q8 q9 q10 q11 q12 q13 o1 HC hcw hE' f1 B0 C0
    go_wp2_with (refine wpList_sto _ rfl (.tmp 4) (.tmp 93) 30 rfl C1 (by kernel_rfl) (by rfl) (vs := [.int .i64 C.kind, .bool C.set, .int .i64 C.st.1, .int .i64 C.st.2, .string C.value, .int .i64 C.num.1, .int .i64 C.num.2, .slice a4 C.ents.length c4, .slice a5 C.elems.length c5, .slice a6 C.seen.length c6]) (by intro u hu; simp only [List.mem_cons, List.not_mem_nil, or_false] at hu; rcases hu with rfl | rfl | rfl | rfl | rfl | rfl | rfl | rfl | rfl | rfl <;> rfl) rfl rfl ?_)
    intro w7 C7 f7 z7
    obtain ⟨t0, t1, t2, t3, t4, t5, t6, t7, t8, t9⟩ := obj10 C7
    go_wp2
    refine bodyPost_ret (v := .tuple #[.agg #[.int .i64 C.kind, .bool C.set, .int .i64 C.st.1, .int .i64 C.st.2, .string C.value, .int .i64 C.num.1, .int .i64 C.num.2, .slice a4 C.ents.length c4, .slice a5 C.elems.length c5, .slice a6 C.seen.length c6], .int .i64 E]) (by simp [results, Tryz.results29, go_sem, *]) rfl ?_
    have o3 := (o2.frm f7 fun k hk e => by omega)
    rw [← hC.out, ← hE.out]
    exact ⟨_, _, _, rfl, ⟨(o3.e.mono fun k _ h => (by omega : w.heap.size ≤ k)).fin (Nat.le_refl _), (o3.l.mono fun k _ h => (by omega : w.heap.size ≤ k)).fin (Nat.le_refl _), (o3.s.mono fun k _ h => (by omega : w.heap.size ≤ k)).fin (Nat.le_refl _)⟩, G1.then f7 fun k hk e => by omega⟩
end Go.Proofs.YtofikfkgiblblaaGreatDoor

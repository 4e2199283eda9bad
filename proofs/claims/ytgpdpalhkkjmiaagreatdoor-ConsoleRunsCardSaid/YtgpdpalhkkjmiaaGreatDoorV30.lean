/- Merged: ConI RefEra. -/
import Derived.Test.YtgpdpalhkkjmiaaGreatDoorV17
import Derived.Test.YtgpdpalhkkjmiaaGreatDoorV18
import Derived.Test.YtgpdpalhkkjmiaaGreatDoorV29
/- Insert of a text that is too long: the program's, the reference's (printed by gen_insbad.py). -/
namespace Go.Proofs.YtgpdpalhkkjmiaaGreatDoor
set_option linter.unusedVariables false
set_option linter.unusedSimpArgs false
set_option linter.unusedVariables false
set_option linter.unusedSimpArgs false
open Go.RowKit Go.Lib Go.Tt Go.Shelf
set_option maxHeartbeats 4000000 in
set_option maxRecDepth 100000 in
theorem rgaInsert_bad {w : World} {c : CellV} {ve vl vs : Value} (h : CellR w c ve vl vs) (hb : CellB c) (hk : c.kind = 3) {x : El} (hd : dotMay (x.1, x.2.1) = true) (ht : timeMay x.2.2.1 = true) (hv : 256 < x.2.2.2.1.size) (hvm : x.2.2.2.1.size ≤ maxLen) (hg : x.2.2.2.2 = false) (ref : Dt) :
    Calls Tryz.prog 77 #[cval c ve vl vs, .agg #[.int .i64 x.1, .int .i64 x.2.1, .int .i64 x.2.2.1, .string x.2.2.2.1, .bool x.2.2.2.2], .agg #[.int .i64 ref.1, .int .i64 ref.2]] w (CP zeroC 1000 w) := by
  obtain ⟨he, hl, hs⟩ := h
  have HR := Lib.hid (⟨he, hl, hs⟩ : CellR w c ve vl vs)
  obtain ⟨ae, ce, rfl⟩ := he.sh
  obtain ⟨al, cl, rfl⟩ := hl.sh
  obtain ⟨at_, cs, rfl⟩ := hs.sh
  have hcv : ∀ e l s, cval c e l s = .agg #[.int .i64 3, .bool c.set, .int .i64 c.st.1, .int .i64 c.st.2, .string c.value, .int .i64 c.num.1, .int .i64 c.num.2, e, l, s] := by intro e l s; unfold cval; rw [hk]
  rw [hcv, hg]
  have HV := Lib.hid hcv
  have HK := Lib.hid hk
  have HB := Lib.hid hb
  have hroom : (c.elems.length + 1) * 48 ≤ 140737488355328 := by have h1 := hb.l; unfold reachBytes at h1; omega
  have HX : Hid (eEl.f x = [.int .i64 x.1, .int .i64 x.2.1, .int .i64 x.2.2.1, .string x.2.2.2.1, .bool false]) := Lib.hid (by show [Value.int .i64 x.1, .int .i64 x.2.1, .int .i64 x.2.2.1, .string x.2.2.2.1, .bool x.2.2.2.2] = _; rw [hg])
  have HM := Lib.hid (fun W => dotMay16 (x.1, x.2.1) W)
  rw [hd] at HM
  have HT := Lib.hid (fun W => time_ok x.2.2.1 W)
  rw [ht] at HT
  have HL := Lib.hid (fun W => lwwValue_ok x.2.2.2.1 W hvm)
  rw [decide_eq_false (by omega)] at HL
  clear he hl hs hb hk hcv hd ht hg
  have B0 : ((((w.alloc (.cells #[.int .i64 3, .bool c.set, .int .i64 c.st.1, .int .i64 c.st.2, .string c.value, .int .i64 c.num.1, .int .i64 c.num.2, .slice ae c.ents.length ce, .slice al c.elems.length cl, .slice at_ c.seen.length cs] 75)).alloc (.cells #[.int .i64 x.1, .int .i64 x.2.1, .int .i64 x.2.2.1, .string x.2.2.2.1, .bool false] 91)).alloc (.cells #[.int .i64 ref.1, .int .i64 ref.2] 83)).alloc (.cells zlist.toArray 75)).heap[w.heap.size]? = some (.cells #[.int .i64 3, .bool c.set, .int .i64 c.st.1, .int .i64 c.st.2, .string c.value, .int .i64 c.num.1, .int .i64 c.num.2, .slice ae c.ents.length ce, .slice al c.elems.length cl, .slice at_ c.seen.length cs] 75 (0, 0)) := al_old (al_old (al_old (heap_alloc_new w _)))
  have E0 : ((((w.alloc (.cells #[.int .i64 3, .bool c.set, .int .i64 c.st.1, .int .i64 c.st.2, .string c.value, .int .i64 c.num.1, .int .i64 c.num.2, .slice ae c.ents.length ce, .slice al c.elems.length cl, .slice at_ c.seen.length cs] 75)).alloc (.cells #[.int .i64 x.1, .int .i64 x.2.1, .int .i64 x.2.2.1, .string x.2.2.2.1, .bool false] 91)).alloc (.cells #[.int .i64 ref.1, .int .i64 ref.2] 83)).alloc (.cells zlist.toArray 75)).heap[w.heap.size + 1]? = some (.cells #[.int .i64 x.1, .int .i64 x.2.1, .int .i64 x.2.2.1, .string x.2.2.2.1, .bool false] 91 (0, 0)) := al_old (al_old (al_at (by simp)))
  have D0 : ((((w.alloc (.cells #[.int .i64 3, .bool c.set, .int .i64 c.st.1, .int .i64 c.st.2, .string c.value, .int .i64 c.num.1, .int .i64 c.num.2, .slice ae c.ents.length ce, .slice al c.elems.length cl, .slice at_ c.seen.length cs] 75)).alloc (.cells #[.int .i64 x.1, .int .i64 x.2.1, .int .i64 x.2.2.1, .string x.2.2.2.1, .bool false] 91)).alloc (.cells #[.int .i64 ref.1, .int .i64 ref.2] 83)).alloc (.cells zlist.toArray 75)).heap[w.heap.size + 2]? = some (.cells #[.int .i64 ref.1, .int .i64 ref.2] 83 (0, 0)) := al_old (al_at (by simp))
  have C0 : ((((w.alloc (.cells #[.int .i64 3, .bool c.set, .int .i64 c.st.1, .int .i64 c.st.2, .string c.value, .int .i64 c.num.1, .int .i64 c.num.2, .slice ae c.ents.length ce, .slice al c.elems.length cl, .slice at_ c.seen.length cs] 75)).alloc (.cells #[.int .i64 x.1, .int .i64 x.2.1, .int .i64 x.2.2.1, .string x.2.2.2.1, .bool false] 91)).alloc (.cells #[.int .i64 ref.1, .int .i64 ref.2] 83)).alloc (.cells zlist.toArray 75)).heap[w.heap.size + 3]? = some (.cells zlist.toArray 75 (0, 0)) := al_at (by simp)
  have F0 : Frm No w ((((w.alloc (.cells #[.int .i64 3, .bool c.set, .int .i64 c.st.1, .int .i64 c.st.2, .string c.value, .int .i64 c.num.1, .int .i64 c.num.2, .slice ae c.ents.length ce, .slice al c.elems.length cl, .slice at_ c.seen.length cs] 75)).alloc (.cells #[.int .i64 x.1, .int .i64 x.2.1, .int .i64 x.2.2.1, .string x.2.2.2.1, .bool false] 91)).alloc (.cells #[.int .i64 ref.1, .int .i64 ref.2] 83)).alloc (.cells zlist.toArray 75)) := ((((Frm.refl No w).al _).al _).al _).al _
  go_enter Tryz.func77, Tryz.ntmps77
  go_wp2_with (fail)
  refine (HM.out _).mono ?_
  rintro e w1 ⟨rfl, f1⟩
  have F1 := F0.trans f1
  have B1 := f1.obj B0 id
  have E1 := f1.obj E0 id
  have D1 := f1.obj D0 id
  have C1 := f1.obj C0 id
  clear f1 B0 E0 D0 C0 F0 HM
  have e0 : w1.cell? ⟨w.heap.size + 1, 0, none⟩ = some (.int .i64 x.1) := obj_cell E1 0
  have e1 : w1.cell? ⟨w.heap.size + 1, 1, none⟩ = some (.int .i64 x.2.1) := obj_cell E1 1
  have e2 : w1.cell? ⟨w.heap.size + 1, 2, none⟩ = some (.int .i64 x.2.2.1) := obj_cell E1 2
  have e3 : w1.cell? ⟨w.heap.size + 1, 3, none⟩ = some (.string x.2.2.2.1) := obj_cell E1 3
  have e4 : w1.cell? ⟨w.heap.size + 1, 4, none⟩ = some (.bool false) := obj_cell E1 4
  have nE1 := lt_of_block E1
  go_wp2_with (fail)
  refine (HT.out _).mono ?_
  rintro e w' ⟨rfl, rfl⟩
  clear HT
  go_wp2_with (fail)
  refine (HL.out _).mono ?_
  rintro e w' ⟨rfl, rfl⟩
  clear HL
  go_wp2_with (refine wpList_sto _ rfl (.tmp 6) (.tmp 41) 75 rfl C1 (by kernel_rfl) (by rfl) zone rfl rfl ?_)
  intro w7 C7 f7 z7
  obtain ⟨t0, t1, t2, t3, t4, t5, t6, t7, t8, t9⟩ := obj10 C7
  go_wp2
  refine bodyPost_ret (v := .tuple #[zval, .int .i64 1000]) (by simp [results, Tryz.results77, go_sem, zval, *]) rfl ?_
  exact zval_cp ⟨rfl, F1.then f7 fun k hk e => by omega⟩
set_option maxHeartbeats 8000000 in
set_option maxRecDepth 100000 in
theorem refInsert_bad {w : World} {c : CellV} {ve vl vs : Value} (h : CellR w c ve vl vs) (hb : CellB c) (hk : c.kind = 3) {d : Dt} (hd : dotMay d = true) {t : Int} (ht : timeMay t = true) {v : ByteArray} (hv : 256 < v.size) (ref : Dt) :
    Calls Tryz.prog 40 #[cval c ve vl vs, .agg #[.int .i64 d.1, .int .i64 d.2, .int .i64 t, .string v, .bool false], .agg #[.int .i64 ref.1, .int .i64 ref.2]] w (CP zeroC 1000 w) := by
  obtain ⟨r1, r2⟩ := ref
  obtain ⟨he, hl, hs⟩ := h
  have HR := Lib.hid (⟨he, hl, hs⟩ : CellR w c ve vl vs)
  obtain ⟨ae, ce, rfl⟩ := he.sh
  obtain ⟨al, cl, rfl⟩ := hl.sh
  obtain ⟨at_, cs, rfl⟩ := hs.sh
  have hcv : ∀ e l s, cval c e l s = .agg #[.int .i64 3, .bool c.set, .int .i64 c.st.1, .int .i64 c.st.2, .string c.value, .int .i64 c.num.1, .int .i64 c.num.2, e, l, s] := by intro e l s; unfold cval; rw [hk]
  rw [hcv]
  have HV := Lib.hid hcv
  have HK := Lib.hid hk
  have HB := Lib.hid hb
  have hroom : (c.elems.length + 1) * 48 ≤ 140737488355328 := by have h1 := hb.l; unfold reachBytes at h1; omega
  have hcap : c.elems.length ≤ cl := hl.facts.2.1
  have hcm := hl.facts.2.2.1
  unfold maxLen at hcm
  have HM := Lib.hid (fun W => refDotMay16 d W)
  rw [hd] at HM
  have htt := of_decide_eq_true ht
  have ht1 : ¬ t < 1 := by omega
  have ht2 : ¬ (16777215 : Int) < t := by omega
  have hv' : (256 : Int) < v.size := by omega
  have F0 : Frm No w ((((w.alloc (.cells #[.int .i64 3, .bool c.set, .int .i64 c.st.1, .int .i64 c.st.2, .string c.value, .int .i64 c.num.1, .int .i64 c.num.2, .slice ae c.ents.length ce, .slice al c.elems.length cl, .slice at_ c.seen.length cs] 75 (0, 0))).alloc (.cells #[.int .i64 d.1, .int .i64 d.2, .int .i64 t, .string v, .bool false] 91 (0, 0))).alloc (.cells #[.int .i64 r1, .int .i64 r2] 83 (0, 0))).alloc (.cells #[.int .i64 0, .bool false, .int .i64 0, .int .i64 0, .string ⟨#[]⟩, .int .i64 0, .int .i64 0, .slice none 0 0, .slice none 0 0, .slice none 0 0] 75 (0, 0))) := ((((Frm.refl No w).al _).al _).al _).al _
  have B0 : ((((w.alloc (.cells #[.int .i64 3, .bool c.set, .int .i64 c.st.1, .int .i64 c.st.2, .string c.value, .int .i64 c.num.1, .int .i64 c.num.2, .slice ae c.ents.length ce, .slice al c.elems.length cl, .slice at_ c.seen.length cs] 75 (0, 0))).alloc (.cells #[.int .i64 d.1, .int .i64 d.2, .int .i64 t, .string v, .bool false] 91 (0, 0))).alloc (.cells #[.int .i64 r1, .int .i64 r2] 83 (0, 0))).alloc (.cells #[.int .i64 0, .bool false, .int .i64 0, .int .i64 0, .string ⟨#[]⟩, .int .i64 0, .int .i64 0, .slice none 0 0, .slice none 0 0, .slice none 0 0] 75 (0, 0))).heap[w.heap.size]? = some (.cells #[.int .i64 3, .bool c.set, .int .i64 c.st.1, .int .i64 c.st.2, .string c.value, .int .i64 c.num.1, .int .i64 c.num.2, .slice ae c.ents.length ce, .slice al c.elems.length cl, .slice at_ c.seen.length cs] 75 (0, 0)) := al_old (al_old (al_old (heap_alloc_new w _)))
  have E0 : ((((w.alloc (.cells #[.int .i64 3, .bool c.set, .int .i64 c.st.1, .int .i64 c.st.2, .string c.value, .int .i64 c.num.1, .int .i64 c.num.2, .slice ae c.ents.length ce, .slice al c.elems.length cl, .slice at_ c.seen.length cs] 75 (0, 0))).alloc (.cells #[.int .i64 d.1, .int .i64 d.2, .int .i64 t, .string v, .bool false] 91 (0, 0))).alloc (.cells #[.int .i64 r1, .int .i64 r2] 83 (0, 0))).alloc (.cells #[.int .i64 0, .bool false, .int .i64 0, .int .i64 0, .string ⟨#[]⟩, .int .i64 0, .int .i64 0, .slice none 0 0, .slice none 0 0, .slice none 0 0] 75 (0, 0))).heap[w.heap.size + 1]? = some (.cells #[.int .i64 d.1, .int .i64 d.2, .int .i64 t, .string v, .bool false] 91 (0, 0)) := al_old (al_old (al_at (by simp)))
  have D0 : ((((w.alloc (.cells #[.int .i64 3, .bool c.set, .int .i64 c.st.1, .int .i64 c.st.2, .string c.value, .int .i64 c.num.1, .int .i64 c.num.2, .slice ae c.ents.length ce, .slice al c.elems.length cl, .slice at_ c.seen.length cs] 75 (0, 0))).alloc (.cells #[.int .i64 d.1, .int .i64 d.2, .int .i64 t, .string v, .bool false] 91 (0, 0))).alloc (.cells #[.int .i64 r1, .int .i64 r2] 83 (0, 0))).alloc (.cells #[.int .i64 0, .bool false, .int .i64 0, .int .i64 0, .string ⟨#[]⟩, .int .i64 0, .int .i64 0, .slice none 0 0, .slice none 0 0, .slice none 0 0] 75 (0, 0))).heap[w.heap.size + 2]? = some (.cells #[.int .i64 r1, .int .i64 r2] 83 (0, 0)) := al_old (al_at (by simp))
  have C0 : ((((w.alloc (.cells #[.int .i64 3, .bool c.set, .int .i64 c.st.1, .int .i64 c.st.2, .string c.value, .int .i64 c.num.1, .int .i64 c.num.2, .slice ae c.ents.length ce, .slice al c.elems.length cl, .slice at_ c.seen.length cs] 75 (0, 0))).alloc (.cells #[.int .i64 d.1, .int .i64 d.2, .int .i64 t, .string v, .bool false] 91 (0, 0))).alloc (.cells #[.int .i64 r1, .int .i64 r2] 83 (0, 0))).alloc (.cells #[.int .i64 0, .bool false, .int .i64 0, .int .i64 0, .string ⟨#[]⟩, .int .i64 0, .int .i64 0, .slice none 0 0, .slice none 0 0, .slice none 0 0] 75 (0, 0))).heap[w.heap.size + 3]? = some (.cells #[.int .i64 0, .bool false, .int .i64 0, .int .i64 0, .string ⟨#[]⟩, .int .i64 0, .int .i64 0, .slice none 0 0, .slice none 0 0, .slice none 0 0] 75 (0, 0)) := al_at (by simp)
  clear he hl hs hb hk hcv hd ht htt hv
  go_enter Tryz.func40, Tryz.ntmps40
  go_wp2_with (fail)
  revert F0 B0 E0 D0 C0
  generalize ((((w.alloc (.cells #[.int .i64 3, .bool c.set, .int .i64 c.st.1, .int .i64 c.st.2, .string c.value, .int .i64 c.num.1, .int .i64 c.num.2, .slice ae c.ents.length ce, .slice al c.elems.length cl, .slice at_ c.seen.length cs] 75 (0, 0))).alloc (.cells #[.int .i64 d.1, .int .i64 d.2, .int .i64 t, .string v, .bool false] 91 (0, 0))).alloc (.cells #[.int .i64 r1, .int .i64 r2] 83 (0, 0))).alloc (.cells #[.int .i64 0, .bool false, .int .i64 0, .int .i64 0, .string ⟨#[]⟩, .int .i64 0, .int .i64 0, .slice none 0 0, .slice none 0 0, .slice none 0 0] 75 (0, 0))) = X0
  intro F0 B0 E0 D0 C0
  refine (HM.out _).mono ?_
  rintro e w1 ⟨rfl, f1⟩
  have F1 := F0.trans f1
  have B1 := f1.obj B0 id
  have E1 := f1.obj E0 id
  have D1 := f1.obj D0 id
  have C1 := f1.obj C0 id
  clear F0 B0 E0 D0 C0 f1 HM
  obtain ⟨p0, p1, p2, p3, p4, p5, p6, p7, p8, p9⟩ := obj10 B1
  have x0 := obj_cell E1 0
  have x1 := obj_cell E1 1
  have x2 := obj_cell E1 2
  have x3 := obj_cell E1 3
  have x4 := obj_cell E1 4
  simp at x0 x1 x2 x3 x4
  have y0 := obj_cell D1 0
  have y1 := obj_cell D1 1
  simp at y0 y1
  have lC1 := lt_of_block C1
  go_wp2_with (refine wpList_sto _ rfl (.tmp 6) (.tmp 47) 75 rfl C1 (by kernel_rfl) (by rfl) zone rfl rfl ?_)
  intro w7 C7 f7 z7
  obtain ⟨s0, s1, s2, s3, s4, s5, s6, s7, s8, s9⟩ := obj10 C7
  clear p0 p1 p2 p3 p4 p5 p6 p7 p8 p9 x0 x1 x2 x3 x4 y0 y1
  go_wp2
  refine bodyPost_ret (v := .tuple #[zval, .int .i64 1000]) (by simp [results, Tryz.results40, go_sem, zval, *]) rfl ?_
  exact zval_cp ⟨rfl, F1.then f7 fun k hk e => by omega⟩
end Go.Proofs.YtgpdpalhkkjmiaaGreatDoor

/- The reference's Erase. -/
namespace Go.Proofs.YtgpdpalhkkjmiaaGreatDoor
set_option linter.unusedVariables false
set_option linter.unusedSimpArgs false
open Go.RowKit Go.Lib Go.Tt Go.Shelf
set_option maxHeartbeats 4000000 in
set_option maxRecDepth 100000 in
theorem refErase_ok {w : World} {c : CellV} {ve vl vs : Value} (h : CellR w c ve vl vs) (hb : CellB c) (hk : c.kind = 3) (d : Dt) :
    Calls Tryz.prog 39 #[cval c ve vl vs, .agg #[.int .i64 d.1, .int .i64 d.2]] w (CP (eraF c d).1 (eraF c d).2 w) := by
  obtain ⟨he, hl, hs⟩ := h
  have HR := Lib.hid (⟨he, hl, hs⟩ : CellR w c ve vl vs)
  obtain ⟨ae, ce, rfl⟩ := he.sh
  obtain ⟨al, cl, rfl⟩ := hl.sh
  obtain ⟨at_, cs, rfl⟩ := hs.sh
  have hcv : ∀ e l s, cval c e l s = .agg #[.int .i64 3, .bool c.set, .int .i64 c.st.1, .int .i64 c.st.2, .string c.value, .int .i64 c.num.1, .int .i64 c.num.2, e, l, s] := by intro e l s; unfold cval; rw [hk]
  rw [hcv]
  have HV := Lib.hid hcv
  have HK := Lib.hid hk
  have HB := Lib.hid hb
  clear he hl hs hb hk hcv
  have B0 : (((w.alloc (.cells #[.int .i64 3, .bool c.set, .int .i64 c.st.1, .int .i64 c.st.2, .string c.value, .int .i64 c.num.1, .int .i64 c.num.2, .slice ae c.ents.length ce, .slice al c.elems.length cl, .slice at_ c.seen.length cs] 75)).alloc (.cells #[.int .i64 d.1, .int .i64 d.2] 83)).alloc (.cells zlist.toArray 75)).heap[w.heap.size]? = some (.cells #[.int .i64 3, .bool c.set, .int .i64 c.st.1, .int .i64 c.st.2, .string c.value, .int .i64 c.num.1, .int .i64 c.num.2, .slice ae c.ents.length ce, .slice al c.elems.length cl, .slice at_ c.seen.length cs] 75 (0, 0)) := al_old (al_old (heap_alloc_new w _))
  have D0 : (((w.alloc (.cells #[.int .i64 3, .bool c.set, .int .i64 c.st.1, .int .i64 c.st.2, .string c.value, .int .i64 c.num.1, .int .i64 c.num.2, .slice ae c.ents.length ce, .slice al c.elems.length cl, .slice at_ c.seen.length cs] 75)).alloc (.cells #[.int .i64 d.1, .int .i64 d.2] 83)).alloc (.cells zlist.toArray 75)).heap[w.heap.size + 1]? = some (.cells #[.int .i64 d.1, .int .i64 d.2] 83 (0, 0)) := al_old (al_at (by simp))
  have C0 : (((w.alloc (.cells #[.int .i64 3, .bool c.set, .int .i64 c.st.1, .int .i64 c.st.2, .string c.value, .int .i64 c.num.1, .int .i64 c.num.2, .slice ae c.ents.length ce, .slice al c.elems.length cl, .slice at_ c.seen.length cs] 75)).alloc (.cells #[.int .i64 d.1, .int .i64 d.2] 83)).alloc (.cells zlist.toArray 75)).heap[w.heap.size + 2]? = some (.cells zlist.toArray 75 (0, 0)) := al_at (by simp)
  have F0 : Frm No w (((w.alloc (.cells #[.int .i64 3, .bool c.set, .int .i64 c.st.1, .int .i64 c.st.2, .string c.value, .int .i64 c.num.1, .int .i64 c.num.2, .slice ae c.ents.length ce, .slice al c.elems.length cl, .slice at_ c.seen.length cs] 75)).alloc (.cells #[.int .i64 d.1, .int .i64 d.2] 83)).alloc (.cells zlist.toArray 75)) := (((Frm.refl No w).al _).al _).al _
  have hlt := findEl_lt c.elems d
  have hf := refPlace_ok (HR.out.no F0) d
  rw [HV.out] at hf
  obtain ⟨u, hu⟩ : ∃ u, Hid (u = findEl c.elems d) := ⟨_, Lib.hid rfl⟩
  rw [← hu.out] at hf hlt
  have HF := Lib.hid hf
  clear hf
  have hE : Hid (eraF c d = if u < 0 then ((zeroC, 1001) : CellV × Int) else ({ c with elems := setGone c.elems u.toNat }, 0)) := Lib.hid (by rw [hu.out]; rfl)
  go_enter Tryz.func39, Tryz.ntmps39
  go_wp2_with (fail)
  refine HF.out.mono ?_
  rintro e w3 ⟨rfl, f3⟩
  have F3 := F0.trans f3
  have B3 := f3.obj B0 id
  have C3 := f3.obj C0 id
  clear f3 B0 D0 C0 F0 HF
  by_cases hu0 : u < 0
  · have hRz : Hid (eraF c d = (zeroC, 1001)) := Lib.hid (by rw [hE.out, if_pos hu0])
    go_wp2_with (refine wpList_sto _ rfl (.tmp 4) (.tmp 16) 75 rfl C3 (by kernel_rfl) (by rfl) zone rfl rfl ?_)
    intro w7 C7 f7 z7
    obtain ⟨t0, t1, t2, t3, t4, t5, t6, t7, t8, t9⟩ := obj10 C7
    go_wp2
    refine bodyPost_ret (v := .tuple #[zval, .int .i64 1001]) (by simp [results, Tryz.results39, go_sem, zval, *]) rfl ?_
    rw [hRz.out]
    exact zval_cp ⟨rfl, F3.then f7 fun k hk e => by omega⟩
  obtain ⟨k, hk⟩ : ∃ k : Nat, u = k := ⟨u.toNat, by omega⟩
  subst hk
  have hkl : k < c.elems.length := by omega
  have hRz : Hid (eraF c d = ({ c with elems := setGone c.elems k }, 0)) := Lib.hid (by rw [hE.out, if_neg hu0]; rfl)
  clear hE hlt
  have n3 : w.heap.size + 2 < w3.heap.size := lt_of_block C3
  have n30 : w.heap.size < w3.heap.size := lt_of_block B3
  obtain ⟨p0, p1, p2, p3, p4, p5, p6, p7, p8, p9⟩ := obj10 B3
  have hcp := refCopy_ok (HR.out.no F3) HB.out
  rw [HV.out] at hcp
  go_wp2_with (fail)
  refine hcp.mono ?_
  rintro e w4 ⟨ve', vl', vs', rfl, o4, f4⟩
  obtain ⟨a4, c4, rfl⟩ := o4.e.sh
  obtain ⟨a5, c5, rfl⟩ := o4.l.sh
  obtain ⟨a6, c6, rfl⟩ := o4.s.sh
  rw [HV.out]
  obtain ⟨g, row, hg, -, hFg, -, hnc5, -⟩ := o4.l.cases (by omega)
  subst hg
  have hFg' : w3.heap.size ≤ g ∧ g < w4.heap.size := hFg.elim (fun h => h.elim) id
  have F4 := F3.next f4
  have z4 := f4.size
  have B4 := f4.obj B3 id
  have C4 := f4.obj C3 id
  clear hcp p0 p1 p2 p3 p4 p5 p6 p7 p8 p9 B3 C3 F3 hFg
  have hone : ∀ (v1 v2 v3 : Value), v1.oneCell' = true → v2.oneCell' = true → v3.oneCell' = true → ∀ u ∈ [Value.int .i64 3, .bool c.set, .int .i64 c.st.1, .int .i64 c.st.2, .string c.value, .int .i64 c.num.1, .int .i64 c.num.2, v1, v2, v3], u.oneCell' = true := by
    intro v1 v2 v3 h1 h2 h3 u hu
    simp only [List.mem_cons, List.not_mem_nil, or_false] at hu
    rcases hu with rfl | rfl | rfl | rfl | rfl | rfl | rfl | rfl | rfl | rfl <;> first | rfl | assumption
  go_wp2_with (refine wpList_sto _ rfl (.tmp 2) (.tmp 18) 75 rfl B4 (by kernel_rfl) (by rfl) (hone (.slice a4 c.ents.length c4) (.slice (some ⟨g, 0, none⟩) c.elems.length c5) (.slice a6 c.seen.length c6) rfl rfl rfl) rfl rfl ?_)
  intro w5 B5 f5 z5
  have C5 := f5.obj C4 (by omega)
  have hty : ∀ t k, Ty w4 t (Nw No w3 w4) k → w3.heap.size ≤ k ∧ k < w4.heap.size := fun t k h => by rcases h.1 with hk | hk; exact hk.elim; exact hk
  have o5 := o4.l.ty.frm f5 fun k hk e => by have := hty _ k hk; omega
  have l5 := o4.e.ty.frm f5 fun k hk e => by have := hty _ k hk; omega
  have s5 := o4.s.ty.frm f5 fun k hk e => by have := hty _ k hk; omega
  obtain ⟨g', row', hg', R5, hFr, -, -, -, hrs, -⟩ := o5.cases (by omega)
  simp only [Option.some.injEq, Addr.mk.injEq, and_true] at hg'
  subst hg'
  obtain ⟨q0, q1, q2, q3, q4, q5, q6, q7, q8, q9⟩ := obj10 B5
  have n5 : w.heap.size < w5.heap.size := lt_of_block B5
  have g5 : g < w5.heap.size := lt_of_block R5
  have fz : ∀ i, w5.frozen? ⟨g, i, none⟩ = false := obj_frz R5
  have rsz : row'.size = c5 * 5 := hrs
  have hin4 : k * 5 + 4 < row'.size := by omega
  have hin3 : k * 5 + 3 < row'.size := by omega
  have v4 : w5.cell? ⟨g, k * 5 + 4, none⟩ = some row'[k * 5 + 4] := by rw [obj_cell R5]; exact Array.getElem?_eq_getElem hin4
  have v3 : w5.cell? ⟨g, k * 5 + 3, none⟩ = some row'[k * 5 + 3] := by rw [obj_cell R5]; exact Array.getElem?_eq_getElem hin3
  have hgne : ¬ g = w.heap.size := by omega
  have hgC : ¬ g = w.heap.size + 2 := by omega
  have n52 : w.heap.size + 2 < w5.heap.size := lt_of_block C5
  go_wp2_with (refine wpList_sto _ rfl (.tmp 4) (.tmp 29) 75 rfl (obj_setCell_ne (obj_setCell_ne C5 (by omega) _) (by omega) _) (by kernel_rfl) (by rfl) (hone (.slice a4 c.ents.length c4) (.slice (some ⟨g, 0, none⟩) c.elems.length c5) (.slice a6 c.seen.length c6) rfl rfl rfl) rfl rfl ?_)
  intro w7 C7 f7 z7
  obtain ⟨t0, t1, t2, t3, t4, t5, t6, t7, t8, t9⟩ := obj10 C7
  clear q0 q1 q2 q3 q4 q5 q6 q7 q8 q9
  go_wp2
  refine bodyPost_ret (v := .tuple #[.agg #[.int .i64 3, .bool c.set, .int .i64 c.st.1, .int .i64 c.st.2, .string c.value, .int .i64 c.num.1, .int .i64 c.num.2, .slice a4 c.ents.length c4, .slice (some ⟨g, 0, none⟩) c.elems.length c5, .slice a6 c.seen.length c6], .int .i64 0]) (by simp [results, Tryz.results39, go_sem, *]) rfl ?_
  have hx : c.elems.getD k (0, 0, 0, ⟨#[]⟩, false) = c.elems[k] := gd hkl
  have o6 := (Ow.set1 o5 (k := k) (j := 4) (y := (c.elems[k].1, c.elems[k].2.1, c.elems[k].2.2.1, c.elems[k].2.2.2.1, true)) (v := .bool true) hkl (by decide) rfl)
  have o7 := Ow.set1 o6 (k := k) (j := 3) (y := goneEl c.elems[k]) (v := .string ⟨#[]⟩) (by rw [List.length_set]; exact hkl) (by decide) (by rw [List.getElem_set_self]; rfl)
  rw [List.set_set] at o7
  have G57 : Frm (fun k => w3.heap.size ≤ k ∧ k < w4.heap.size) w5 ((w5.setCell ⟨g, k * 5 + 4, none⟩ (.bool true)).setCell ⟨g, k * 5 + 3, none⟩ (.string ⟨#[]⟩)) := (Frm.setCell (F := fun k => w3.heap.size ≤ k ∧ k < w4.heap.size) w5 ⟨g, k * 5 + 4, none⟩ _ hFg').trans (Frm.setCell (F := fun k => w3.heap.size ≤ k ∧ k < w4.heap.size) _ ⟨g, k * 5 + 3, none⟩ _ hFg')
  have hTg : Ty w4 91 (Nw No w3 w4) g := hFr
  have GT : Frm (fun k => k = g) w5 ((w5.setCell ⟨g, k * 5 + 4, none⟩ (.bool true)).setCell ⟨g, k * 5 + 3, none⟩ (.string ⟨#[]⟩)) := (Frm.setCell (F := fun k => k = g) w5 ⟨g, k * 5 + 4, none⟩ _ rfl).trans (Frm.setCell (F := fun k => k = g) _ ⟨g, k * 5 + 3, none⟩ _ rfl)
  have l6 := l5.frm GT fun k hk e => by subst e; exact hk.apart (by decide) hTg
  have s6 := s5.frm GT fun k hk e => by subst e; exact hk.apart (by decide) hTg
  have G6 : Frm (fun k => k < w3.heap.size) ((w5.setCell ⟨g, k * 5 + 4, none⟩ (.bool true)).setCell ⟨g, k * 5 + 3, none⟩ (.string ⟨#[]⟩)) w7 := f7.mono fun k _ e => by omega
  have M : ∀ k, w3.heap.size ≤ k → ¬ k < w3.heap.size := fun k h => by omega
  have e7 := (o7.mono (G := fun k => w3.heap.size ≤ k) fun k hk h => (hty _ _ h).1).frm G6 M
  have l7 := (l6.mono (G := fun k => w3.heap.size ≤ k) fun k hk h => (hty _ _ h).1).frm G6 M
  have s7 := (s6.mono (G := fun k => w3.heap.size ≤ k) fun k hk h => (hty _ _ h).1).frm G6 M
  have z3 : w.heap.size ≤ w3.heap.size := by omega
  rw [hRz.out]
  refine ⟨_, .slice (some ⟨g, 0, none⟩) c.elems.length c5, _, ?_, ⟨l7.fin z3, ?_, s7.fin z3⟩, ((F4.then f5 fun k hk h => by omega).then G57 fun k hk hh => by omega).then f7 fun k hk hh => by omega⟩
  · unfold cval
    dsimp only
    rw [HK.out]
  · unfold setGone
    dsimp only
    rw [hx]
    exact e7.fin z3
end Go.Proofs.YtgpdpalhkkjmiaaGreatDoor


/- Merged: RefEra RefRd RefNew. -/
import Derived.Test.YtofikfkgiblblaaGreatDoorQ23
import Derived.Test.YtofikfkgiblblaaGreatDoorQ35
import Derived.Test.YtofikfkgiblblaaGreatDoorQ37
import Derived.Test.YtofikfkgiblblaaGreatDoorQ41
import Derived.Test.YtofikfkgiblblaaGreatDoorZC1
set_option linter.unusedVariables false
set_option linter.unusedSimpArgs false
/- The reference's Erase. -/
namespace Go.Proofs.YtofikfkgiblblaaGreatDoor
set_option linter.unusedVariables false
set_option linter.unusedSimpArgs false
open Go.RowKit Go.Lib Go.Tt Go.Shelf
set_option maxHeartbeats 4000000 in
set_option maxRecDepth 100000 in
theorem refErase_ok {w : World} {c : CellV} {ve vl vs : Value} (h : CellR w c ve vl vs) (hb : CellB c) (hk : c.kind = 3) (d : Dt) :
    Calls Tryz.prog 82 #[cval c ve vl vs, .agg #[.int .i64 d.1, .int .i64 d.2]] w (CP (eraF c d).1 (eraF c d).2 w) := by
  obtain ⟨he, hl, hs⟩ := h
  have HR := Lib.hid (⟨he, hl, hs⟩ : CellR w c ve vl vs)
  obtain ⟨ae, ce, rfl⟩ := he.sh
  obtain ⟨al, cl, rfl⟩ := hl.sh
  obtain ⟨at_, cs, rfl⟩ := hs.sh
  have hcv : ∀ e l s, cval c e l s = .agg #[.int .i64 3, .bool c.set, .int .i64 c.st.1, .int .i64 c.st.2, .string c.value, .int .i64 c.num.1, .int .i64 c.num.2, e, l, s] := by intro e l s; unfold cval; rw [hk]
  rw [hcv]
  have HV := Lib.hid hcv
  have HK := Lib.hid hk
  have HB := Lib.hid hb
  clear he hl hs hb hk hcv
  have B0 : (((w.alloc (.cells #[.int .i64 3, .bool c.set, .int .i64 c.st.1, .int .i64 c.st.2, .string c.value, .int .i64 c.num.1, .int .i64 c.num.2, .slice ae c.ents.length ce, .slice al c.elems.length cl, .slice at_ c.seen.length cs] 30)).alloc (.cells #[.int .i64 d.1, .int .i64 d.2] 32)).alloc (.cells zlist.toArray 30)).heap[w.heap.size]? = some (.cells #[.int .i64 3, .bool c.set, .int .i64 c.st.1, .int .i64 c.st.2, .string c.value, .int .i64 c.num.1, .int .i64 c.num.2, .slice ae c.ents.length ce, .slice al c.elems.length cl, .slice at_ c.seen.length cs] 30 (0, 0)) := al_old (al_old (heap_alloc_new w _))
  have D0 : (((w.alloc (.cells #[.int .i64 3, .bool c.set, .int .i64 c.st.1, .int .i64 c.st.2, .string c.value, .int .i64 c.num.1, .int .i64 c.num.2, .slice ae c.ents.length ce, .slice al c.elems.length cl, .slice at_ c.seen.length cs] 30)).alloc (.cells #[.int .i64 d.1, .int .i64 d.2] 32)).alloc (.cells zlist.toArray 30)).heap[w.heap.size + 1]? = some (.cells #[.int .i64 d.1, .int .i64 d.2] 32 (0, 0)) := al_old (al_at (by simp))
  have C0 : (((w.alloc (.cells #[.int .i64 3, .bool c.set, .int .i64 c.st.1, .int .i64 c.st.2, .string c.value, .int .i64 c.num.1, .int .i64 c.num.2, .slice ae c.ents.length ce, .slice al c.elems.length cl, .slice at_ c.seen.length cs] 30)).alloc (.cells #[.int .i64 d.1, .int .i64 d.2] 32)).alloc (.cells zlist.toArray 30)).heap[w.heap.size + 2]? = some (.cells zlist.toArray 30 (0, 0)) := al_at (by simp)
  have F0 : Frm No w (((w.alloc (.cells #[.int .i64 3, .bool c.set, .int .i64 c.st.1, .int .i64 c.st.2, .string c.value, .int .i64 c.num.1, .int .i64 c.num.2, .slice ae c.ents.length ce, .slice al c.elems.length cl, .slice at_ c.seen.length cs] 30)).alloc (.cells #[.int .i64 d.1, .int .i64 d.2] 32)).alloc (.cells zlist.toArray 30)) := (((Frm.refl No w).al _).al _).al _
  have hlt := findEl_lt c.elems d
  have hf := refPlace_ok (HR.out.no F0) d
  rw [HV.out] at hf
  obtain ⟨u, hu⟩ : ∃ u, Hid (u = findEl c.elems d) := ⟨_, Lib.hid rfl⟩
  rw [← hu.out] at hf hlt
  have HF := Lib.hid hf
  clear hf
  have hE : Hid (eraF c d = if u < 0 then ((zeroC, 1001) : CellV × Int) else ({ c with elems := setGone c.elems u.toNat }, 0)) := Lib.hid (by rw [hu.out]; rfl)
  go_enter Tryz.func82, Tryz.ntmps82
  go_wp2_with (fail)
  refine HF.out.mono ?_
  rintro e w3 ⟨rfl, f3⟩
  have F3 := F0.trans f3
  have B3 := f3.obj B0 id
  have C3 := f3.obj C0 id
  clear f3 B0 D0 C0 F0 HF
  by_cases hu0 : u < 0
  · have hRz : Hid (eraF c d = (zeroC, 1001)) := Lib.hid (by rw [hE.out, if_pos hu0])
    go_wp2_with (refine wpList_sto _ rfl (.tmp 4) (.tmp 16) 30 rfl C3 (by kernel_rfl) (by rfl) zone rfl rfl ?_)
    intro w7 C7 f7 z7
    obtain ⟨t0, t1, t2, t3, t4, t5, t6, t7, t8, t9⟩ := obj10 C7
    go_wp2
    refine bodyPost_ret (v := .tuple #[zval, .int .i64 1001]) (by simp [results, Tryz.results82, go_sem, zval, *]) rfl ?_
    rw [hRz.out]
    exact zval_cp ⟨rfl, F3.then f7 fun k hk e => by omega⟩
  obtain ⟨k, hk⟩ : ∃ k : Nat, u = k := ⟨u.toNat, by omega⟩
  subst hk
  have hkl : k < c.elems.length := by omega
  have hRz : Hid (eraF c d = ({ c with elems := setGone c.elems k }, 0)) := Lib.hid (by rw [hE.out, if_neg hu0]; rfl)
  clear hE hlt
  have n3 : w.heap.size + 2 < w3.heap.size := lt_of_block C3
  have n30 : w.heap.size < w3.heap.size := lt_of_block B3
  obtain ⟨p0, p1, p2, p3, p4, p5, p6, p7, p8, p9⟩ := obj10 B3
  have hcp := refCopy_ok (HR.out.no F3) HB.out
  rw [HV.out] at hcp
  go_wp2_with (fail)
  refine hcp.mono ?_
  rintro e w4 ⟨ve', vl', vs', rfl, o4, f4⟩
  obtain ⟨a4, c4, rfl⟩ := o4.e.sh
  obtain ⟨a5, c5, rfl⟩ := o4.l.sh
  obtain ⟨a6, c6, rfl⟩ := o4.s.sh
  rw [HV.out]
  obtain ⟨g, row, hg, -, hFg, -, hnc5, -⟩ := o4.l.cases (by omega)
  subst hg
  have hFg' : w3.heap.size ≤ g ∧ g < w4.heap.size := hFg.elim (fun h => h.elim) id
  have F4 := F3.next f4
  have z4 := f4.size
  have B4 := f4.obj B3 id
  have C4 := f4.obj C3 id
  clear hcp p0 p1 p2 p3 p4 p5 p6 p7 p8 p9 B3 C3 F3 hFg
  have hone : ∀ (v1 v2 v3 : Value), v1.oneCell' = true → v2.oneCell' = true → v3.oneCell' = true → ∀ u ∈ [Value.int .i64 3, .bool c.set, .int .i64 c.st.1, .int .i64 c.st.2, .string c.value, .int .i64 c.num.1, .int .i64 c.num.2, v1, v2, v3], u.oneCell' = true := by
    intro v1 v2 v3 h1 h2 h3 u hu
    simp only [List.mem_cons, List.not_mem_nil, or_false] at hu
    rcases hu with rfl | rfl | rfl | rfl | rfl | rfl | rfl | rfl | rfl | rfl <;> first | rfl | assumption
  go_wp2_with (refine wpList_sto _ rfl (.tmp 2) (.tmp 18) 30 rfl B4 (by kernel_rfl) (by rfl) (hone (.slice a4 c.ents.length c4) (.slice (some ⟨g, 0, none⟩) c.elems.length c5) (.slice a6 c.seen.length c6) rfl rfl rfl) rfl rfl ?_)
  intro w5 B5 f5 z5
  have C5 := f5.obj C4 (by omega)
  have hty : ∀ t k, Ty w4 t (Nw No w3 w4) k → w3.heap.size ≤ k ∧ k < w4.heap.size := fun t k h => by rcases h.1 with hk | hk; exact hk.elim; exact hk
  have o5 := o4.l.ty.frm f5 fun k hk e => by have := hty _ k hk; omega
  have l5 := o4.e.ty.frm f5 fun k hk e => by have := hty _ k hk; omega
  have s5 := o4.s.ty.frm f5 fun k hk e => by have := hty _ k hk; omega
  obtain ⟨g', row', hg', R5, hFr, -, -, -, hrs, -⟩ := o5.cases (by omega)
  simp only [Option.some.injEq, Addr.mk.injEq, and_true] at hg'
  subst hg'
  obtain ⟨q0, q1, q2, q3, q4, q5, q6, q7, q8, q9⟩ := obj10 B5
  have n5 : w.heap.size < w5.heap.size := lt_of_block B5
  have g5 : g < w5.heap.size := lt_of_block R5
  have fz : ∀ i, w5.frozen? ⟨g, i, none⟩ = false := obj_frz R5
  have rsz : row'.size = c5 * 5 := hrs
  have hin4 : k * 5 + 4 < row'.size := by omega
  have hin3 : k * 5 + 3 < row'.size := by omega
  have v4 : w5.cell? ⟨g, k * 5 + 4, none⟩ = some row'[k * 5 + 4] := by rw [obj_cell R5]; exact Array.getElem?_eq_getElem hin4
  have v3 : w5.cell? ⟨g, k * 5 + 3, none⟩ = some row'[k * 5 + 3] := by rw [obj_cell R5]; exact Array.getElem?_eq_getElem hin3
  have hgne : ¬ g = w.heap.size := by omega
  have hgC : ¬ g = w.heap.size + 2 := by omega
  have n52 : w.heap.size + 2 < w5.heap.size := lt_of_block C5
  go_wp2_with (refine wpList_sto _ rfl (.tmp 4) (.tmp 29) 30 rfl (obj_setCell_ne (obj_setCell_ne C5 (by omega) _) (by omega) _) (by kernel_rfl) (by rfl) (hone (.slice a4 c.ents.length c4) (.slice (some ⟨g, 0, none⟩) c.elems.length c5) (.slice a6 c.seen.length c6) rfl rfl rfl) rfl rfl ?_)
  intro w7 C7 f7 z7
  obtain ⟨t0, t1, t2, t3, t4, t5, t6, t7, t8, t9⟩ := obj10 C7
  clear q0 q1 q2 q3 q4 q5 q6 q7 q8 q9
  go_wp2
  refine bodyPost_ret (v := .tuple #[.agg #[.int .i64 3, .bool c.set, .int .i64 c.st.1, .int .i64 c.st.2, .string c.value, .int .i64 c.num.1, .int .i64 c.num.2, .slice a4 c.ents.length c4, .slice (some ⟨g, 0, none⟩) c.elems.length c5, .slice a6 c.seen.length c6], .int .i64 0]) (by simp [results, Tryz.results82, go_sem, *]) rfl ?_
  have hx : c.elems.getD k (0, 0, 0, ⟨#[]⟩, false) = c.elems[k] := gd hkl
  have o6 := (Ow.set1 o5 (k := k) (j := 4) (y := (c.elems[k].1, c.elems[k].2.1, c.elems[k].2.2.1, c.elems[k].2.2.2.1, true)) (v := .bool true) hkl (by decide) rfl)
  have o7 := Ow.set1 o6 (k := k) (j := 3) (y := goneEl c.elems[k]) (v := .string ⟨#[]⟩) (by rw [List.length_set]; exact hkl) (by decide) (by rw [List.getElem_set_self]; rfl)
  rw [List.set_set] at o7
  have G57 : Frm (fun k => w3.heap.size ≤ k ∧ k < w4.heap.size) w5 ((w5.setCell ⟨g, k * 5 + 4, none⟩ (.bool true)).setCell ⟨g, k * 5 + 3, none⟩ (.string ⟨#[]⟩)) := (Frm.setCell (F := fun k => w3.heap.size ≤ k ∧ k < w4.heap.size) w5 ⟨g, k * 5 + 4, none⟩ _ hFg').trans (Frm.setCell (F := fun k => w3.heap.size ≤ k ∧ k < w4.heap.size) _ ⟨g, k * 5 + 3, none⟩ _ hFg')
  have hTg : Ty w4 59 (Nw No w3 w4) g := hFr
  have GT : Frm (fun k => k = g) w5 ((w5.setCell ⟨g, k * 5 + 4, none⟩ (.bool true)).setCell ⟨g, k * 5 + 3, none⟩ (.string ⟨#[]⟩)) := (Frm.setCell (F := fun k => k = g) w5 ⟨g, k * 5 + 4, none⟩ _ rfl).trans (Frm.setCell (F := fun k => k = g) _ ⟨g, k * 5 + 3, none⟩ _ rfl)
  have l6 := l5.frm GT fun k hk e => by subst e; exact hk.apart (by decide) hTg
  have s6 := s5.frm GT fun k hk e => by subst e; exact hk.apart (by decide) hTg
  have G6 : Frm (fun k => k < w3.heap.size) ((w5.setCell ⟨g, k * 5 + 4, none⟩ (.bool true)).setCell ⟨g, k * 5 + 3, none⟩ (.string ⟨#[]⟩)) w7 := f7.mono fun k _ e => by omega
  have M : ∀ k, w3.heap.size ≤ k → ¬ k < w3.heap.size := fun k h => by omega
  have e7 := (o7.mono (G := fun k => w3.heap.size ≤ k) fun k hk h => (hty _ _ h).1).frm G6 M
  have l7 := (l6.mono (G := fun k => w3.heap.size ≤ k) fun k hk h => (hty _ _ h).1).frm G6 M
  have s7 := (s6.mono (G := fun k => w3.heap.size ≤ k) fun k hk h => (hty _ _ h).1).frm G6 M
  have z3 : w.heap.size ≤ w3.heap.size := by omega
  rw [hRz.out]
  refine ⟨_, .slice (some ⟨g, 0, none⟩) c.elems.length c5, _, ?_, ⟨l7.fin z3, ?_, s7.fin z3⟩, ((F4.then f5 fun k hk h => by omega).then G57 fun k hk hh => by omega).then f7 fun k hk hh => by omega⟩
  · unfold cval
    dsimp only
    rw [HK.out]
  · unfold setGone
    dsimp only
    rw [hx]
    exact e7.fin z3
end Go.Proofs.YtofikfkgiblblaaGreatDoor
/- The reference's Read. -/
namespace Go.Proofs.YtofikfkgiblblaaGreatDoor
open Go.RowKit Go.Lib Go.Tt Go.Shelf
/-- A cell that can be told by the reference, too. -/
structure ToldR (c : CellV) : Prop where
  v : 6 * c.value.size + 2 ≤ 140737488355327
  e : wgt (valsOf c.ents) + 2 ≤ 140737488355327 ∧ (valsOf c.ents).length ≤ 4294967296
  l : wgt (valsL c.elems) + 2 ≤ 140737488355327 ∧ (valsL c.elems).length ≤ 4294967296
theorem ToldR.told {c : CellV} (h : ToldR c) : Told c := ⟨fun _ => Nat.le_trans h.v (by decide), fun _ => ⟨Nat.le_trans h.e.1 (by decide), h.e.2⟩, fun _ => ⟨Nat.le_trans h.l.1 (by decide), h.l.2⟩⟩
set_option maxHeartbeats 2000000 in
set_option maxRecDepth 100000 in
theorem refRead_bad {w : World} {c : CellV} {ve vl vs : Value} (h : CellR w c ve vl vs) (hk : kindMay c.kind = false) :
    Calls Tryz.prog 16 #[cval c ve vl vs] w fun e w' => e = .returned (.tuple #[.string ⟨(readF c).1.toArray⟩, .int .i64 (readF c).2]) ∧ Frm No w w' := by
  obtain ⟨he, hl, hs⟩ := h
  obtain ⟨ae, ce, rfl⟩ := he.sh
  obtain ⟨al, cl, rfl⟩ := hl.sh
  obtain ⟨at_, cs, rfl⟩ := hs.sh
  have hr : Hid (readF c = ([], 1200)) := Lib.hid (by unfold readF; rw [if_pos (.inl hk)])
  have hkk := of_decide_eq_false hk
  have k0 : ¬ c.kind = 0 := by omega
  have k1 : ¬ c.kind = 1 := by omega
  have k2 : ¬ c.kind = 2 := by omega
  have k3 : ¬ c.kind = 3 := by omega
  clear hkk
  unfold cval
  have B0 := heap_alloc_new w (.cells #[.int .i64 c.kind, .bool c.set, .int .i64 c.st.1, .int .i64 c.st.2, .string c.value, .int .i64 c.num.1, .int .i64 c.num.2, .slice ae c.ents.length ce, .slice al c.elems.length cl, .slice at_ c.seen.length cs] 30 (0, 0))
  have F0 : Frm No w (w.alloc (.cells #[.int .i64 c.kind, .bool c.set, .int .i64 c.st.1, .int .i64 c.st.2, .string c.value, .int .i64 c.num.1, .int .i64 c.num.2, .slice ae c.ents.length ce, .slice al c.elems.length cl, .slice at_ c.seen.length cs] 30 (0, 0))) := (Frm.refl No w).al _
  obtain ⟨q0, q1, q2, q3, q4, q5, q6, q7, q8, q9⟩ := obj10 B0
  clear he hl hs hk B0
  go_enter Tryz.func16, Tryz.ntmps16
  go_wp2_with (fail)
  go_ret2
  rw [hr.out]
  exact ⟨rfl, F0⟩
set_option maxHeartbeats 2000000 in
set_option maxRecDepth 100000 in
theorem refRead_lww {w : World} {c : CellV} {ve vl vs : Value} (h : CellR w c ve vl vs) (hk : c.kind = 0) (ht : ToldR c) :
    Calls Tryz.prog 16 #[cval c ve vl vs] w fun e w' => e = .returned (.tuple #[.string ⟨(readF c).1.toArray⟩, .int .i64 (readF c).2]) ∧ Frm No w w' := by
  obtain ⟨he, hl, hs⟩ := h
  obtain ⟨ae, ce, rfl⟩ := he.sh
  obtain ⟨al, cl, rfl⟩ := hl.sh
  obtain ⟨at_, cs, rfl⟩ := hs.sh
  have HQ := Lib.hid (fun W => refQuote_ok c.value W ht.v)
  have hr : Hid (readF c = (if c.set = false then [110, 117, 108, 108] else quoteL c.value.data.toList, 0)) := Lib.hid (by unfold readF; rw [hk]; rfl)
  have hcv : cval c (.slice ae c.ents.length ce) (.slice al c.elems.length cl) (.slice at_ c.seen.length cs) = .agg #[.int .i64 0, .bool c.set, .int .i64 c.st.1, .int .i64 c.st.2, .string c.value, .int .i64 c.num.1, .int .i64 c.num.2, .slice ae c.ents.length ce, .slice al c.elems.length cl, .slice at_ c.seen.length cs] := by unfold cval; rw [hk]
  rw [hcv]
  have B0 := heap_alloc_new w (.cells #[.int .i64 0, .bool c.set, .int .i64 c.st.1, .int .i64 c.st.2, .string c.value, .int .i64 c.num.1, .int .i64 c.num.2, .slice ae c.ents.length ce, .slice al c.elems.length cl, .slice at_ c.seen.length cs] 30 (0, 0))
  have F0 : Frm No w (w.alloc (.cells #[.int .i64 0, .bool c.set, .int .i64 c.st.1, .int .i64 c.st.2, .string c.value, .int .i64 c.num.1, .int .i64 c.num.2, .slice ae c.ents.length ce, .slice al c.elems.length cl, .slice at_ c.seen.length cs] 30 (0, 0))) := (Frm.refl No w).al _
  obtain ⟨q0, q1, q2, q3, q4, q5, q6, q7, q8, q9⟩ := obj10 B0
  clear he hl hs hk B0 ht hcv
  rcases hs : c.set with _ | _
  · rw [hs] at hr q1 F0
    rw [if_pos rfl] at hr
    go_enter Tryz.func16, Tryz.ntmps16
    go_wp2_with (fail)
    go_ret2
    rw [hr.out]
    exact ⟨rfl, F0⟩
  · rw [hs] at hr q1 F0
    rw [if_neg (by decide)] at hr
    go_enter Tryz.func16, Tryz.ntmps16
    go_wp2_with (fail)
    refine (HQ.out _).mono ?_
    rintro e w1 ⟨rfl, f1⟩
    go_wp2_with (fail)
    go_ret2
    rw [hr.out]
    exact ⟨rfl, F0.trans f1⟩
set_option maxHeartbeats 2000000 in
set_option maxRecDepth 100000 in
theorem refRead_set {w : World} {c : CellV} {ve vl vs : Value} (h : CellR w c ve vl vs) (hb : CellB c) (hk : c.kind = 2) (ht : ToldR c) :
    Calls Tryz.prog 16 #[cval c ve vl vs] w fun e w' => e = .returned (.tuple #[.string ⟨(readF c).1.toArray⟩, .int .i64 (readF c).2]) ∧ Frm No w w' := by
  obtain ⟨he, hl, hs⟩ := h
  obtain ⟨ae, ce, rfl⟩ := he.sh
  obtain ⟨al, cl, rfl⟩ := hl.sh
  obtain ⟨at_, cs, rfl⟩ := hs.sh
  have HV := Lib.hid (fun W (f : Frm No w W) => refValues_ok ((⟨he, hl, hs⟩ : CellR w c _ _ _).no f) hb hk)
  have hr : Hid (readF c = (textsL (valsOf c.ents), 0)) := Lib.hid (by unfold readF; rw [hk]; rfl)
  have HT := Lib.hid ht.e
  have hcv : cval c (.slice ae c.ents.length ce) (.slice al c.elems.length cl) (.slice at_ c.seen.length cs) = .agg #[.int .i64 2, .bool c.set, .int .i64 c.st.1, .int .i64 c.st.2, .string c.value, .int .i64 c.num.1, .int .i64 c.num.2, .slice ae c.ents.length ce, .slice al c.elems.length cl, .slice at_ c.seen.length cs] := by unfold cval; rw [hk]
  rw [hcv] at HV ⊢
  have B0 := heap_alloc_new w (.cells #[.int .i64 2, .bool c.set, .int .i64 c.st.1, .int .i64 c.st.2, .string c.value, .int .i64 c.num.1, .int .i64 c.num.2, .slice ae c.ents.length ce, .slice al c.elems.length cl, .slice at_ c.seen.length cs] 30 (0, 0))
  have F0 : Frm No w (w.alloc (.cells #[.int .i64 2, .bool c.set, .int .i64 c.st.1, .int .i64 c.st.2, .string c.value, .int .i64 c.num.1, .int .i64 c.num.2, .slice ae c.ents.length ce, .slice al c.elems.length cl, .slice at_ c.seen.length cs] 30 (0, 0))) := (Frm.refl No w).al _
  obtain ⟨q0, q1, q2, q3, q4, q5, q6, q7, q8, q9⟩ := obj10 B0
  clear he hl hs hk B0 ht hcv hb
  revert HT HV hr
  generalize valsOf c.ents = L
  intro HV hr HT
  go_enter Tryz.func16, Tryz.ntmps16
  go_wp2_with (fail)
  refine (HV.out _ F0).mono ?_
  rintro e w2 ⟨a2, n2, c2, rfl, o2, f2⟩
  have F2 := F0.trans f2
  clear HV f2
  have HX := Lib.hid (refQuotes_ok o2.rd HT.out.1)
  clear o2
  go_wp2_with (fail)
  refine HX.out.mono ?_
  rintro e w3 ⟨rfl, f3⟩
  go_wp2_with (fail)
  go_ret2
  rw [hr.out]
  exact ⟨rfl, F2.trans f3⟩
set_option maxHeartbeats 2000000 in
set_option maxRecDepth 100000 in
theorem refRead_list {w : World} {c : CellV} {ve vl vs : Value} (h : CellR w c ve vl vs) (hb : CellB c) (hk : c.kind = 3) (ht : ToldR c) :
    Calls Tryz.prog 16 #[cval c ve vl vs] w fun e w' => e = .returned (.tuple #[.string ⟨(readF c).1.toArray⟩, .int .i64 (readF c).2]) ∧ Frm No w w' := by
  obtain ⟨he, hl, hs⟩ := h
  obtain ⟨ae, ce, rfl⟩ := he.sh
  obtain ⟨al, cl, rfl⟩ := hl.sh
  obtain ⟨at_, cs, rfl⟩ := hs.sh
  have HV := Lib.hid (fun W (f : Frm No w W) => refListValues_ok ((⟨he, hl, hs⟩ : CellR w c _ _ _).no f) hb hk)
  have hr : Hid (readF c = (textsL (valsL c.elems), 0)) := Lib.hid (by unfold readF; rw [hk]; rfl)
  have HT := Lib.hid ht.l
  have hcv : cval c (.slice ae c.ents.length ce) (.slice al c.elems.length cl) (.slice at_ c.seen.length cs) = .agg #[.int .i64 3, .bool c.set, .int .i64 c.st.1, .int .i64 c.st.2, .string c.value, .int .i64 c.num.1, .int .i64 c.num.2, .slice ae c.ents.length ce, .slice al c.elems.length cl, .slice at_ c.seen.length cs] := by unfold cval; rw [hk]
  rw [hcv] at HV ⊢
  have B0 := heap_alloc_new w (.cells #[.int .i64 3, .bool c.set, .int .i64 c.st.1, .int .i64 c.st.2, .string c.value, .int .i64 c.num.1, .int .i64 c.num.2, .slice ae c.ents.length ce, .slice al c.elems.length cl, .slice at_ c.seen.length cs] 30 (0, 0))
  have F0 : Frm No w (w.alloc (.cells #[.int .i64 3, .bool c.set, .int .i64 c.st.1, .int .i64 c.st.2, .string c.value, .int .i64 c.num.1, .int .i64 c.num.2, .slice ae c.ents.length ce, .slice al c.elems.length cl, .slice at_ c.seen.length cs] 30 (0, 0))) := (Frm.refl No w).al _
  obtain ⟨q0, q1, q2, q3, q4, q5, q6, q7, q8, q9⟩ := obj10 B0
  clear he hl hs hk B0 ht hcv hb
  revert HT HV hr
  generalize valsL c.elems = L
  intro HV hr HT
  go_enter Tryz.func16, Tryz.ntmps16
  go_wp2_with (fail)
  refine (HV.out _ F0).mono ?_
  rintro e w2 ⟨a2, n2, c2, rfl, o2, f2⟩
  have F2 := F0.trans f2
  clear HV f2
  have HX := Lib.hid (refQuotes_ok o2.rd HT.out.1)
  clear o2
  go_wp2_with (fail)
  refine HX.out.mono ?_
  rintro e w3 ⟨rfl, f3⟩
  go_wp2_with (fail)
  go_ret2
  rw [hr.out]
  exact ⟨rfl, F2.trans f3⟩
set_option maxHeartbeats 2000000 in
set_option maxRecDepth 100000 in
theorem refRead_count {w : World} {c : CellV} {ve vl vs : Value} (h : CellR w c ve vl vs) (hk : c.kind = 1) :
    Calls Tryz.prog 16 #[cval c ve vl vs] w fun e w' => e = .returned (.tuple #[.string ⟨(readF c).1.toArray⟩, .int .i64 (readF c).2]) ∧ Frm No w w' := by
  obtain ⟨he, hl, hs⟩ := h
  obtain ⟨ae, ce, rfl⟩ := he.sh
  obtain ⟨al, cl, rfl⟩ := hl.sh
  obtain ⟨at_, cs, rfl⟩ := hs.sh
  have HG := Lib.hid (fun W => refPairMay_ok c.num W)
  have hr : Hid (readF c = if pairMay c.num = false then ([], 1200) else (numT c.num, 0)) := Lib.hid (by
    unfold readF
    rw [hk]
    rcases pairMay c.num with _ | _ <;> simp [kindMay])
  have hcv : cval c (.slice ae c.ents.length ce) (.slice al c.elems.length cl) (.slice at_ c.seen.length cs) = .agg #[.int .i64 1, .bool c.set, .int .i64 c.st.1, .int .i64 c.st.2, .string c.value, .int .i64 c.num.1, .int .i64 c.num.2, .slice ae c.ents.length ce, .slice al c.elems.length cl, .slice at_ c.seen.length cs] := by unfold cval; rw [hk]
  rw [hcv]
  have B0 := heap_alloc_new w (.cells #[.int .i64 1, .bool c.set, .int .i64 c.st.1, .int .i64 c.st.2, .string c.value, .int .i64 c.num.1, .int .i64 c.num.2, .slice ae c.ents.length ce, .slice al c.elems.length cl, .slice at_ c.seen.length cs] 30 (0, 0))
  have F0 : Frm No w (w.alloc (.cells #[.int .i64 1, .bool c.set, .int .i64 c.st.1, .int .i64 c.st.2, .string c.value, .int .i64 c.num.1, .int .i64 c.num.2, .slice ae c.ents.length ce, .slice al c.elems.length cl, .slice at_ c.seen.length cs] 30 (0, 0))) := (Frm.refl No w).al _
  obtain ⟨q0, q1, q2, q3, q4, q5, q6, q7, q8, q9⟩ := obj10 B0
  clear he hl hs hk hcv
  go_enter Tryz.func16, Tryz.ntmps16
  go_wp2_with (fail)
  refine (HG.out _).mono ?_
  rintro e w2 ⟨rfl, f2⟩
  have F2 := F0.trans f2
  have B2 := f2.obj B0 id
  clear q0 q1 q2 q3 q4 q5 q6 q7 q8 q9 HG f2 B0
  obtain ⟨q0, q1, q2, q3, q4, q5, q6, q7, q8, q9⟩ := obj10 B2
  rcases hp : pairMay c.num with _ | _
  · rw [hp, if_pos rfl] at hr
    go_wp2_with (fail)
    go_ret2
    rw [hr.out]
    exact ⟨rfl, F2⟩
  rw [hp, if_neg (by decide)] at hr
  have hb := of_decide_eq_true hp
  have HI := Lib.hid (fun W => refNumber_ok c.num.1 (by omega) (by omega) W)
  have HJ := Lib.hid (fun W => refNumber_ok c.num.2 (by omega) (by omega) W)
  have l1 : (Lib.itoa c.num.1).length ≤ 21 := Lib.itoa_length_le _ (by omega) (by omega)
  have l2 : (Lib.itoa c.num.2).length ≤ 21 := Lib.itoa_length_le _ (by omega) (by omega)
  by_cases h0 : c.num.2 = 0
  · have hr2 : Hid (numT c.num = Lib.itoa c.num.1) := Lib.hid (by unfold numT; rw [if_pos h0])
    rw [hr2.out] at hr
    clear l1 l2 hb
    go_wp2_with (fail)
    refine (HI.out _).mono ?_
    rintro e w3 ⟨rfl, f3⟩
    go_wp2_with (fail)
    go_ret2
    rw [hr.out]
    exact ⟨rfl, F2.trans f3⟩
  obtain ⟨T1, hT1⟩ : ∃ T : ByteArray, Hid (T = ⟨(Lib.itoa c.num.1).toArray⟩) := ⟨_, Lib.hid rfl⟩
  obtain ⟨T2, hT2⟩ : ∃ T : ByteArray, Hid (T = ⟨(Lib.itoa c.num.2).toArray⟩) := ⟨_, Lib.hid rfl⟩
  have s1 : T1.size ≤ 21 := by rw [hT1.out]; exact l1
  have s2 : T2.size ≤ 21 := by rw [hT2.out]; exact l2
  have hx := numT_two h0
  rw [← hT1.out, ← hT2.out] at hx
  rw [← hT1.out] at HI
  rw [← hT2.out] at HJ
  obtain ⟨Y1, hY1⟩ : ∃ Y, (⟨#[91]⟩ : ByteArray) ++ T1 = Y := ⟨_, rfl⟩
  obtain ⟨Y2, hY2⟩ : ∃ Y, Y1 ++ ⟨#[44]⟩ = Y := ⟨_, rfl⟩
  obtain ⟨Y3, hY3⟩ : ∃ Y, Y2 ++ T2 = Y := ⟨_, rfl⟩
  rw [hY1, hY2, hY3] at hx
  have HTX := Lib.hid hx
  clear hx
  have y1 : Hid (Y1.size = 1 + T1.size) := Lib.hid (by rw [← hY1, ByteArray.size_append]; rfl)
  have y2 : Hid (Y2.size = Y1.size + 1) := Lib.hid (by rw [← hY2, ByteArray.size_append]; rfl)
  have y3 : Hid (Y3.size = Y2.size + T2.size) := Lib.hid (by rw [← hY3, ByteArray.size_append])
  have hs1 : ¬ ((9223372036854775807 : Int) < ((⟨#[91]⟩ : ByteArray).size + T1.size : Nat)) := by show ¬ ((9223372036854775807 : Int) < (1 + T1.size : Nat)); omega
  have hs2 : ¬ ((9223372036854775807 : Int) < (Y1.size + (⟨#[44]⟩ : ByteArray).size : Nat)) := by have := y1.out; show ¬ ((9223372036854775807 : Int) < (Y1.size + 1 : Nat)); omega
  have hs3 : ¬ ((9223372036854775807 : Int) < (Y2.size + T2.size : Nat)) := by have := y1.out; have := y2.out; omega
  have hs4 : ¬ ((9223372036854775807 : Int) < (Y3.size + (⟨#[93]⟩ : ByteArray).size : Nat)) := by have := y1.out; have := y2.out; have := y3.out; show ¬ ((9223372036854775807 : Int) < (Y3.size + 1 : Nat)); omega
  clear s1 s2 l1 l2 hb
  have hne : (c.num.2 == 0) = false := by simp [h0]
  go_wp2_with (fail)
  refine wp_region_fork (.seg [0, 1, 2, 6, 7, 8, 3] [8] (.fork 4 [8] (.fork 5 [8] (.seg [9] [] (.seg [10] [] (.seg [11] [] (.seg [12, 13] [] .nil)))) 9 [] (.seg [5] [] (.seg [10] [] (.seg [11] [] (.seg [12, 13] [] .nil))))) 9 [] (.seg [4] [] (.seg [5] [] (.seg [10] [] (.seg [11] [] (.seg [12, 13] [] .nil))))))) 62 (by kernel_rfl) (by kernel_rfl) (by simp) ?_
  intro N hN
  simp only [wpST, wpSg, List.map_cons, List.map_nil, List.getD_cons_zero, List.getD_cons_succ]
  go_wp2_with (fail)
  refine (HI.out _).mono ?_
  rintro e w3 ⟨rfl, f3⟩
  have F3 := (F2.trans (Frm.drew No w2)).trans f3
  have B3 := f3.obj ((Frm.drew No w2).obj B2 id) id
  clear q0 q1 q2 q3 q4 q5 q6 q7 q8 q9 f3
  obtain ⟨q0, q1, q2, q3, q4, q5, q6, q7, q8, q9⟩ := obj10 B3
  go_wp2_with (fail)
  refine ⟨again_cons (again_of rfl rfl ?_) again_nil, ?_⟩
  · go_simp
  refine ⟨?_, ?_⟩
  · go_wp2_with (fail)
    refine ⟨again_cons (again_of rfl rfl ?_) again_nil, ?_⟩
    · go_simp
    refine ⟨?_, ?_⟩
    · go_wp2_with (fail)
      refine ⟨again_cons (again_of rfl rfl ?_) again_nil, ?_⟩
      · go_simp
      go_wp2_with (fail)
      refine (HJ.out _).mono ?_
      rintro e w4 ⟨rfl, f4⟩
      have F4 := F3.trans f4
      go_wp2_with (fail)
      go_ret2
      rw [hr.out]
      exact ⟨congrArg (fun b => Ending.returned (Value.tuple #[.string b, .int .i64 0])) HTX.out, F4⟩
    · go_wp2_with (fail)
      refine (HJ.out _).mono ?_
      rintro e w4 ⟨rfl, f4⟩
      have F4 := F3.trans f4
      go_wp2_with (fail)
      go_ret2
      rw [hr.out]
      exact ⟨congrArg (fun b => Ending.returned (Value.tuple #[.string b, .int .i64 0])) HTX.out, F4⟩
  · go_wp2_with (fail)
    refine (HJ.out _).mono ?_
    rintro e w4 ⟨rfl, f4⟩
    have F4 := F3.trans f4
    go_wp2_with (fail)
    go_ret2
    rw [hr.out]
    exact ⟨congrArg (fun b => Ending.returned (Value.tuple #[.string b, .int .i64 0])) HTX.out, F4⟩
theorem refRead_ok {w : World} {c : CellV} {ve vl vs : Value} (h : CellR w c ve vl vs) (hb : CellB c) (ht : ToldR c) :
    Calls Tryz.prog 16 #[cval c ve vl vs] w fun e w' => e = .returned (.tuple #[.string ⟨(readF c).1.toArray⟩, .int .i64 (readF c).2]) ∧ Frm No w w' := by
  rcases hk : kindMay c.kind with _ | _
  · exact refRead_bad h hk
  · have hk := of_decide_eq_true hk
    rcases (show c.kind = 0 ∨ c.kind = 1 ∨ c.kind = 2 ∨ c.kind = 3 by omega) with h0 | h0 | h0 | h0
    · exact refRead_lww h h0 ht
    · exact refRead_count h h0
    · exact refRead_set h hb h0 ht
    · exact refRead_list h hb h0 ht
end Go.Proofs.YtofikfkgiblblaaGreatDoor
/- The reference's NewCell. -/
namespace Go.Proofs.YtofikfkgiblblaaGreatDoor
open Go.RowKit Go.Lib Go.Tt
set_option maxHeartbeats 1000000 in
set_option maxRecDepth 100000 in
theorem refNew_ok (k n : Int) (w : World) : Calls Tryz.prog 14 #[.int .i64 k, .int .i64 n] w (CP (newF k n).1 (newF k n).2 w) := by
  have C0 := heap_alloc_new w (.cells zlist.toArray 30 (0, 0))
  have nc : w.heap.size < (w.alloc (.cells zlist.toArray 30 (0, 0))).heap.size := lt_of_block C0
  rcases hk : kindMay k with _ | _
  · have hr : Hid (newF k n = (zeroC, 1201)) := Lib.hid (if_pos hk)
    have hkk := of_decide_eq_false hk
    have hc : k < 0 ∨ (0 ≤ k ∧ 3 < k) := by omega
    clear hk hkk
    rcases hc with h0 | ⟨h0, h1⟩
    · go_enter Tryz.func14, Tryz.ntmps14
      go_wp2_with (refine wpList_sto _ rfl (.tmp 4) (.tmp 12) 30 rfl C0 (by kernel_rfl) (by rfl) zone rfl rfl ?_)
      intro w7 C7 f7 z7
      obtain ⟨t0, t1, t2, t3, t4, t5, t6, t7, t8, t9⟩ := obj10 C7
      go_wp2
      refine bodyPost_ret (v := .tuple #[zval, .int .i64 1201]) (by simp [results, Tryz.results14, go_sem, zval, *]) rfl ?_
      rw [hr.out]
      exact zval_cp ⟨rfl, ((Frm.refl No w).al _).then f7 fun k hk e => by omega⟩
    · go_enter Tryz.func14, Tryz.ntmps14
      go_wp2_with (refine wpList_sto _ rfl (.tmp 4) (.tmp 12) 30 rfl C0 (by kernel_rfl) (by rfl) zone rfl rfl ?_)
      intro w7 C7 f7 z7
      obtain ⟨t0, t1, t2, t3, t4, t5, t6, t7, t8, t9⟩ := obj10 C7
      go_wp2
      refine bodyPost_ret (v := .tuple #[zval, .int .i64 1201]) (by simp [results, Tryz.results14, go_sem, zval, *]) rfl ?_
      rw [hr.out]
      exact zval_cp ⟨rfl, ((Frm.refl No w).al _).then f7 fun k hk e => by omega⟩
  have hkk := of_decide_eq_true hk
  have k1 : ¬ k < 0 := by omega
  have k2 : ¬ 3 < k := by omega
  rcases hn : nodesMay n with _ | _
  · have hr : Hid (newF k n = (zeroC, 1200)) := Lib.hid (by unfold newF; rw [if_neg (by rw [hk]; decide), if_pos hn])
    have hnn := of_decide_eq_false hn
    have hc : n < 1 ∨ (1 ≤ n ∧ 16 < n) := by omega
    clear hk hn hkk hnn
    rcases hc with h0 | ⟨h0, h1⟩
    · go_enter Tryz.func14, Tryz.ntmps14
      go_wp2_with (refine wpList_sto _ rfl (.tmp 4) (.tmp 19) 30 rfl C0 (by kernel_rfl) (by rfl) zone rfl rfl ?_)
      intro w7 C7 f7 z7
      obtain ⟨t0, t1, t2, t3, t4, t5, t6, t7, t8, t9⟩ := obj10 C7
      go_wp2
      refine bodyPost_ret (v := .tuple #[zval, .int .i64 1200]) (by simp [results, Tryz.results14, go_sem, zval, *]) rfl ?_
      rw [hr.out]
      exact zval_cp ⟨rfl, ((Frm.refl No w).al _).then f7 fun k hk e => by omega⟩
    · go_enter Tryz.func14, Tryz.ntmps14
      go_wp2_with (refine wpList_sto _ rfl (.tmp 4) (.tmp 19) 30 rfl C0 (by kernel_rfl) (by rfl) zone rfl rfl ?_)
      intro w7 C7 f7 z7
      obtain ⟨t0, t1, t2, t3, t4, t5, t6, t7, t8, t9⟩ := obj10 C7
      go_wp2
      refine bodyPost_ret (v := .tuple #[zval, .int .i64 1200]) (by simp [results, Tryz.results14, go_sem, zval, *]) rfl ?_
      rw [hr.out]
      exact zval_cp ⟨rfl, ((Frm.refl No w).al _).then f7 fun k hk e => by omega⟩
  have hr : Hid (newF k n = (newC k n.toNat, 0)) := Lib.hid (by unfold newF; rw [if_neg (by rw [hk]; decide), if_neg (by rw [hn]; decide)])
  have hnb := of_decide_eq_true hn
  clear hk hn
  obtain ⟨m, hm⟩ : ∃ m : Nat, n = m := ⟨n.toNat, by omega⟩
  subst hm
  have m1 : ¬ (m : Int) < 1 := by omega
  have m2 : ¬ 16 < (m : Int) := by omega
  go_enter Tryz.func14, Tryz.ntmps14
  go_wp2_with (at_make; refine wpList_mk1 _ rfl _ _ 28 rfl 3 (.int .i64 0) 8 Tryz.underlying28 i_int rfl _ _ _ _ m rfl rfl rfl rfl (by omega) (by unfold maxLen; omega) ?_)
  intro w1 o1 g1
  have f1 := grown_no g1
  have C1 := f1.obj C0 id
  have n1 := lt_of_block C1
  go_wp2_with (refine wpList_sto _ rfl (.tmp 4) (.tmp 23) 30 rfl C1 (by kernel_rfl) (by rfl) (vs := [.int .i64 k, .bool false, .int .i64 0, .int .i64 0, .string ⟨#[]⟩, .int .i64 0, .int .i64 0, .slice none 0 0, .slice none 0 0, .slice (some ⟨w.heap.size + 1, 0, none⟩) m m]) (by intro u hu; simp only [List.mem_cons, List.not_mem_nil, or_false] at hu; rcases hu with rfl | rfl | rfl | rfl | rfl | rfl | rfl | rfl | rfl | rfl <;> rfl) rfl rfl ?_)
  intro w7 C7 f7 z7
  obtain ⟨t0, t1, t2, t3, t4, t5, t6, t7, t8, t9⟩ := obj10 C7
  go_wp2
  refine bodyPost_ret (v := .tuple #[.agg #[.int .i64 k, .bool false, .int .i64 0, .int .i64 0, .string ⟨#[]⟩, .int .i64 0, .int .i64 0, .slice none 0 0, .slice none 0 0, .slice (some ⟨w.heap.size + 1, 0, none⟩) m m], .int .i64 0]) (by simp [results, Tryz.results14, go_sem, *]) rfl ?_
  rw [hr.out]
  have hfl := flat_zeros m
  have hlen : (List.replicate m (0 : Int)).length = m := List.length_replicate
  refine ⟨.slice none 0 0, .slice none 0 0, _, rfl, ⟨Ow.nil _ _ _ _ _, Ow.nil _ _ _ _ _, ?_⟩, (((Frm.refl No w).al _).trans f1).then f7 fun k hk e => by omega⟩
  have o2 : Ow w1 (fun k => w.heap.size < k) 3 eInt (.slice (some ⟨w.heap.size + 1, 0, none⟩) m m) (List.replicate m 0) := by
    refine .inr ⟨by rw [hlen, hfl]; exact o1, fun g hg => ?_⟩
    obtain rfl := Option.some.inj hg
    show w.heap.size < w.heap.size + 1
    omega
  have o3 := o2.frm f7 fun k hk e => by omega
  show Ow w7 _ 3 eInt _ (List.replicate ((m : Int).toNat) 0)
  rw [Int.toNat_natCast]
  exact (o3.mono fun k _ h => (by omega : w.heap.size ≤ k)).fin (Nat.le_refl _)
end Go.Proofs.YtofikfkgiblblaaGreatDoor

/- Merged: DropP RefBad. -/
import Derived.Test.YtofikfkgiblblaaGreatDoorQ14
import Derived.Test.YtofikfkgiblblaaGreatDoorQ18
/- Sets: orset.Drop. -/
namespace Go.Proofs.YtofikfkgiblblaaGreatDoor
set_option linter.unusedVariables false
set_option linter.unusedSimpArgs false
set_option linter.unusedVariables false
set_option linter.unusedSimpArgs false
open Go.RowKit Go.Lib Go.Tt Go.Shelf
set_option maxHeartbeats 1000000 in
set_option maxRecDepth 100000 in
theorem drop_ok {w : World} {c : CellV} {ve vl vs : Value} (h : CellR w c ve vl vs) (hb : CellB c) (hk : c.kind = 2) {ad : Option Addr} {nd cd : Nat} {ds : List Dt} (hd : RdS w eDt (.slice ad nd cd) ds) :
    Calls Tryz.prog 69 #[cval c ve vl vs, .slice ad nd cd] w fun e w' => ∃ ve' vl' vs', e = .returned (.tuple #[cval { c with ents := dropped c.ents ds } ve' vl' vs', .int .i64 0]) ∧ CellO w' (Nw No w w') { c with ents := dropped c.ents ds } ve' vl' vs' ∧ Frm No w w' := by
  obtain ⟨he, hl, hs⟩ := h
  have HR := Lib.hid (⟨he, hl, hs⟩ : CellR w c ve vl vs)
  obtain ⟨ae, ce, rfl⟩ := he.sh
  obtain ⟨al, cl, rfl⟩ := hl.sh
  obtain ⟨at_, cs, rfl⟩ := hs.sh
  have hcv : cval c (.slice ae c.ents.length ce) (.slice al c.elems.length cl) (.slice at_ c.seen.length cs) = .agg #[.int .i64 2, .bool c.set, .int .i64 c.st.1, .int .i64 c.st.2, .string c.value, .int .i64 c.num.1, .int .i64 c.num.2, .slice ae c.ents.length ce, .slice al c.elems.length cl, .slice at_ c.seen.length cs] := by unfold cval; rw [hk]
  rw [hcv]
  have HV := Lib.hid hcv
  have HK := Lib.hid hk
  have HB := Lib.hid hb
  have HD := Lib.hid hd
  clear he hl hs hb hk hcv hd
  have B3 : (((w.alloc (.cells #[.int .i64 2, .bool c.set, .int .i64 c.st.1, .int .i64 c.st.2, .string c.value, .int .i64 c.num.1, .int .i64 c.num.2, .slice ae c.ents.length ce, .slice al c.elems.length cl, .slice at_ c.seen.length cs] 30)).alloc (.cells #[.slice ad nd cd] 33)).alloc (.cells zlist.toArray 30)).heap[w.heap.size]? = some (.cells #[.int .i64 2, .bool c.set, .int .i64 c.st.1, .int .i64 c.st.2, .string c.value, .int .i64 c.num.1, .int .i64 c.num.2, .slice ae c.ents.length ce, .slice al c.elems.length cl, .slice at_ c.seen.length cs] 30 (0, 0)) := al_old (al_old (heap_alloc_new w _))
  have D3 : (((w.alloc (.cells #[.int .i64 2, .bool c.set, .int .i64 c.st.1, .int .i64 c.st.2, .string c.value, .int .i64 c.num.1, .int .i64 c.num.2, .slice ae c.ents.length ce, .slice al c.elems.length cl, .slice at_ c.seen.length cs] 30)).alloc (.cells #[.slice ad nd cd] 33)).alloc (.cells zlist.toArray 30)).heap[w.heap.size + 1]? = some (.cells #[.slice ad nd cd] 33 (0, 0)) := al_old (al_at (by simp))
  have C3 : (((w.alloc (.cells #[.int .i64 2, .bool c.set, .int .i64 c.st.1, .int .i64 c.st.2, .string c.value, .int .i64 c.num.1, .int .i64 c.num.2, .slice ae c.ents.length ce, .slice al c.elems.length cl, .slice at_ c.seen.length cs] 30)).alloc (.cells #[.slice ad nd cd] 33)).alloc (.cells zlist.toArray 30)).heap[w.heap.size + 2]? = some (.cells zlist.toArray 30 (0, 0)) := al_at (by simp)
  have F3 : Frm No w (((w.alloc (.cells #[.int .i64 2, .bool c.set, .int .i64 c.st.1, .int .i64 c.st.2, .string c.value, .int .i64 c.num.1, .int .i64 c.num.2, .slice ae c.ents.length ce, .slice al c.elems.length cl, .slice at_ c.seen.length cs] 30)).alloc (.cells #[.slice ad nd cd] 33)).alloc (.cells zlist.toArray 30)) := (((Frm.refl No w).al _).al _).al _
  have hm1 : c.ents.length ≤ 2 ^ 63 - 1 := by have h1 := HB.out.e; unfold reachBytes at h1; omega
  have hcp := lwwCopy_ok (HR.out.no F3) HB.out
  rw [HV.out] at hcp
  go_enter Tryz.func69, Tryz.ntmps69
  go_wp2_with (fail)
  change Calls Tryz.prog _ _ (((w.alloc (.cells #[.int .i64 2, .bool c.set, .int .i64 c.st.1, .int .i64 c.st.2, .string c.value, .int .i64 c.num.1, .int .i64 c.num.2, .slice ae c.ents.length ce, .slice al c.elems.length cl, .slice at_ c.seen.length cs] 30)).alloc (.cells #[.slice ad nd cd] 33)).alloc (.cells zlist.toArray 30)) _
  generalize hw3 : (((w.alloc (.cells #[.int .i64 2, .bool c.set, .int .i64 c.st.1, .int .i64 c.st.2, .string c.value, .int .i64 c.num.1, .int .i64 c.num.2, .slice ae c.ents.length ce, .slice al c.elems.length cl, .slice at_ c.seen.length cs] 30)).alloc (.cells #[.slice ad nd cd] 33)).alloc (.cells zlist.toArray 30)) = w3 at B3 D3 C3 F3 hcp ⊢
  clear hw3
  have n3 : w.heap.size + 2 < w3.heap.size := lt_of_block C3
  have n31 : w.heap.size + 1 < w3.heap.size := lt_of_block D3
  have n30 : w.heap.size < w3.heap.size := lt_of_block B3
  refine hcp.mono ?_
  rintro e w4 ⟨ve', vl', vs', rfl, o4, f4⟩
  obtain ⟨a4, c4, rfl⟩ := o4.e.sh
  obtain ⟨a5, c5, rfl⟩ := o4.l.sh
  obtain ⟨a6, c6, rfl⟩ := o4.s.sh
  rw [show cval c (.slice a4 c.ents.length c4) (.slice a5 c.elems.length c5) (.slice a6 c.seen.length c6) = .agg #[.int .i64 2, .bool c.set, .int .i64 c.st.1, .int .i64 c.st.2, .string c.value, .int .i64 c.num.1, .int .i64 c.num.2, .slice a4 c.ents.length c4, .slice a5 c.elems.length c5, .slice a6 c.seen.length c6] by unfold cval; rw [HK.out]]
  have F4 := F3.next f4
  have z4 := f4.size
  have B4 := f4.obj B3 id
  have C4 := f4.obj C3 id
  have D4 := f4.obj D3 id
  clear hcp B3 C3 F3
  have hone : ∀ (v1 v2 v3 : Value), v1.oneCell' = true → v2.oneCell' = true → v3.oneCell' = true → ∀ u ∈ [Value.int .i64 2, .bool c.set, .int .i64 c.st.1, .int .i64 c.st.2, .string c.value, .int .i64 c.num.1, .int .i64 c.num.2, v1, v2, v3], u.oneCell' = true := by
    intro v1 v2 v3 h1 h2 h3 u hu
    simp only [List.mem_cons, List.not_mem_nil, or_false] at hu
    rcases hu with rfl | rfl | rfl | rfl | rfl | rfl | rfl | rfl | rfl | rfl <;> first | rfl | assumption
  go_wp2_with (refine wpList_sto _ rfl (.tmp 2) (.tmp 11) 30 rfl B4 (by kernel_rfl) (by rfl) (hone (.slice a4 c.ents.length c4) (.slice a5 c.elems.length c5) (.slice a6 c.seen.length c6) rfl rfl rfl) rfl rfl ?_)
  intro w5 B5 f5 z5
  have C5 := f5.obj C4 (by omega)
  have D5 := f5.obj D4 (by omega)
  have q7 : w5.cell? ⟨w.heap.size, 7, none⟩ = some (.slice a4 c.ents.length c4) := obj_cell B5 7
  have d0 : w5.cell? ⟨w.heap.size + 1, 0, none⟩ = some (.slice ad nd cd) := obj_cell D5 0
  have n5 : w.heap.size < w5.heap.size := lt_of_block B5
  have hty : ∀ t k, Ty w4 t (Nw No w3 w4) k → w3.heap.size ≤ k ∧ k < w4.heap.size := fun t k h => by rcases h.1 with hk | hk; exact hk.elim; exact hk
  have o5 := o4.e.ty.frm f5 fun k hk e => by have := hty _ k hk; omega
  have l5 := o4.l.ty.frm f5 fun k hk e => by have := hty _ k hk; omega
  have s5 := o4.s.ty.frm f5 fun k hk e => by have := hty _ k hk; omega
  go_wp2_with (fail)
  have p1 : PredF (Ty w4 62 (Nw No w3 w4)) w5 113 #[.pointer (some ⟨w.heap.size + 1, 0, none⟩)] (fun e => decide ((e.1, e.2.1) ∈ ds)) := fun W x f => by
    have hds5 := ((HD.out.no F4).frm f5 fun k hk e => by have := HD.out.blk_lt hk; omega).frm f fun k hk h => by have := HD.out.blk_lt hk; have := hty _ _ h; omega
    exact drop1_ok hds5 (f.obj D5 fun h => by have := hty _ _ h; omega) x
  have hdel := delFunc_ok o5 p1 (enters_of Tryz.func113 (by kernel_rfl) rfl)
  refine hdel.mono ?_
  rintro e w6 ⟨n7, rfl, o6, f6⟩
  clear hdel d0 q7 n5
  have hN : ∀ k, k < w3.heap.size → ¬ Ty w4 62 (Nw No w3 w4) k := fun k hk h => by have := hty _ _ h; omega
  have l6 := l5.frm f6 fun k hk => hk.apart (by decide)
  have s6 := s5.frm f6 fun k hk => hk.apart (by decide)
  have B6 := f6.obj B5 (hN _ n30)
  have C6 := f6.obj C5 (hN _ n3)
  have z6 : w4.heap.size ≤ w6.heap.size := by have := f6.size; omega
  have n6 : w.heap.size < w6.heap.size := lt_of_block B6
  obtain ⟨q0, q1, q2, q3, q4, q5, q6, q7, q8, q9⟩ := obj10 B6
  have r3 := obj_frz B6
  go_wp2_with (refine wpList_sto _ rfl (.tmp 4) (.tmp 17) 30 rfl (obj_setCell_ne C6 (by omega) (.slice a4 n7 c4)) (by kernel_rfl) (by rfl) (hone (.slice a4 n7 c4) (.slice a5 c.elems.length c5) (.slice a6 c.seen.length c6) rfl rfl rfl) rfl rfl ?_)
  intro w7 C7 f7 z7
  obtain ⟨t0, t1, t2, t3, t4, t5, t6, t7, t8, t9⟩ := obj10 C7
  clear q0 q1 q2 q3 q4 q5 q6 q7 q8 q9 r3
  go_wp2
  refine bodyPost_ret (v := .tuple #[.agg #[.int .i64 2, .bool c.set, .int .i64 c.st.1, .int .i64 c.st.2, .string c.value, .int .i64 c.num.1, .int .i64 c.num.2, .slice a4 n7 c4, .slice a5 c.elems.length c5, .slice a6 c.seen.length c6], .int .i64 0]) (by simp [results, Tryz.results69, go_sem, *]) rfl ?_
  have hpe : c.ents.filter (fun x => !decide ((x.1, x.2.1) ∈ ds)) = dropped c.ents ds := by unfold dropped; congr 1; funext x; exact (decide_not).symm
  have G67 : Frm (fun k => w.heap.size ≤ k ∧ k < w.heap.size + 3) w6 w7 := (Frm.setCell (F := fun k => w.heap.size ≤ k ∧ k < w.heap.size + 3) w6 ⟨w.heap.size, 7, none⟩ (.slice a4 n7 c4) (by show w.heap.size ≤ w.heap.size ∧ w.heap.size < w.heap.size + 3; omega)).trans (f7.mono fun k _ hk => by omega)
  have hG2 : ∀ k, w.heap.size + 3 ≤ k → ¬ (w.heap.size ≤ k ∧ k < w.heap.size + 3) := fun k h => by omega
  have G57 : Frm (fun k => w.heap.size ≤ k) w5 w7 := (f6.mono fun k _ h => by have := hty _ _ h; omega).trans (G67.mono fun k _ h => h.1)
  have z67 : w7.heap.size = w6.heap.size := z7
  have e1 : Ow w7 (fun k => w.heap.size + 3 ≤ k) 62 eEn (.slice a4 n7 c4) (dropped c.ents ds) := by
    rw [← hpe]
    exact (o6.mono (G := fun k => w.heap.size + 3 ≤ k) fun k hk h => by have := hty _ _ h; omega).frm G67 hG2
  have l7 := (l6.mono (G := fun k => w.heap.size + 3 ≤ k) fun k hk h => by have := hty _ _ h; omega).frm G67 hG2
  have s7 := (s6.mono (G := fun k => w.heap.size + 3 ≤ k) fun k hk h => by have := hty _ _ h; omega).frm G67 hG2
  refine ⟨.slice a4 n7 c4, _, _, ?_, ⟨e1.fin (by omega), l7.fin (by omega), s7.fin (by omega)⟩, (F4.then f5 fun k hk h => by omega).then G57 fun k hk hh => by omega⟩
  unfold cval
  dsimp only
  rw [HK.out]
end Go.Proofs.YtofikfkgiblblaaGreatDoor

/- Sets: what the document's answer refuses. -/
namespace Go.Proofs.YtofikfkgiblblaaGreatDoor
set_option linter.unusedVariables false
set_option linter.unusedSimpArgs false
open Go.RowKit Go.Lib Go.Tt
set_option maxHeartbeats 1000000 in
set_option maxRecDepth 100000 in
theorem refPut_bad1 {w : World} {c : CellV} {ve vl vs : Value} (h : CellR w c ve vl vs) (d : Dt) (v : ByteArray) (hvm : v.size ≤ maxLen) (hbad : c.kind ≠ 2 ∨ dotMay d = false ∨ 256 < v.size) :
    Calls Tryz.prog 79 #[cval c ve vl vs, .agg #[.int .i64 d.1, .int .i64 d.2], .string v] w fun e w' => e = .returned (.tuple #[zval, .int .i64 900]) ∧ Frm No w w' := by
  obtain ⟨ae, ce, rfl⟩ := h.e.sh
  obtain ⟨al, cl, rfl⟩ := h.l.sh
  obtain ⟨at_, cs, rfl⟩ := h.s.sh
  unfold cval
  unfold maxLen at hvm
  have HM := fun W => refDotMay16 d W
  have HBd := Lib.hid hbad
  clear h hbad
  have C0 : (((w.alloc (.cells #[.int .i64 c.kind, .bool c.set, .int .i64 c.st.1, .int .i64 c.st.2, .string c.value, .int .i64 c.num.1, .int .i64 c.num.2, .slice ae c.ents.length ce, .slice al c.elems.length cl, .slice at_ c.seen.length cs] 30)).alloc (.cells #[.int .i64 d.1, .int .i64 d.2] 32)).alloc (.cells zlist.toArray 30)).heap[w.heap.size + 2]? = some (.cells zlist.toArray 30 (0, 0)) := al_at (by simp)
  have F0 : Frm No w (((w.alloc (.cells #[.int .i64 c.kind, .bool c.set, .int .i64 c.st.1, .int .i64 c.st.2, .string c.value, .int .i64 c.num.1, .int .i64 c.num.2, .slice ae c.ents.length ce, .slice al c.elems.length cl, .slice at_ c.seen.length cs] 30)).alloc (.cells #[.int .i64 d.1, .int .i64 d.2] 32)).alloc (.cells zlist.toArray 30)) := (((Frm.refl No w).al _).al _).al _
  by_cases hk : c.kind = 2
  · rw [hk] at C0 F0 ⊢
    have hbad := HBd.out
    rcases hdm : dotMay d with _ | _
    · rw [hdm] at HM
      clear hbad hk hdm HBd
      go_enter Tryz.func79, Tryz.ntmps79
      go_wp2_with (fail)
      refine (HM _).mono ?_
      rintro e w1 ⟨rfl, f1⟩
      have C1 := f1.obj C0 id
      have F1 := F0.trans f1
      clear HM
      go_wp2_with (refine wpList_sto _ rfl (.tmp 6) (.tmp 24) 30 rfl C1 (by kernel_rfl) (by rfl) zone rfl rfl ?_)
      intro w7 C7 f7 z7
      obtain ⟨t0, t1, t2, t3, t4, t5, t6, t7, t8, t9⟩ := obj10 C7
      go_wp2
      refine bodyPost_ret (v := .tuple #[zval, .int .i64 900]) (by simp [results, Tryz.results79, go_sem, zval, *]) rfl ?_
      exact ⟨rfl, F1.then f7 fun k hk e => by omega⟩
    · rw [hdm] at HM
      have hs : (256 : Int) < v.size := by
        rcases hbad with h | h | h
        · exact absurd hk h
        · rw [hdm] at h; cases h
        · omega
      clear hbad hk hdm HBd
      go_enter Tryz.func79, Tryz.ntmps79
      go_wp2_with (fail)
      refine (HM _).mono ?_
      rintro e w1 ⟨rfl, f1⟩
      have C1 := f1.obj C0 id
      have F1 := F0.trans f1
      clear HM
      go_wp2_with (refine wpList_sto _ rfl (.tmp 6) (.tmp 24) 30 rfl C1 (by kernel_rfl) (by rfl) zone rfl rfl ?_)
      intro w7 C7 f7 z7
      obtain ⟨t0, t1, t2, t3, t4, t5, t6, t7, t8, t9⟩ := obj10 C7
      go_wp2
      refine bodyPost_ret (v := .tuple #[zval, .int .i64 900]) (by simp [results, Tryz.results79, go_sem, zval, *]) rfl ?_
      exact ⟨rfl, F1.then f7 fun k hk e => by omega⟩
  · have C1 := C0
    have F1 := F0
    clear HBd
    go_enter Tryz.func79, Tryz.ntmps79
    go_wp2_with (refine wpList_sto _ rfl (.tmp 6) (.tmp 24) 30 rfl C1 (by kernel_rfl) (by rfl) zone rfl rfl ?_)
    intro w7 C7 f7 z7
    obtain ⟨t0, t1, t2, t3, t4, t5, t6, t7, t8, t9⟩ := obj10 C7
    go_wp2
    refine bodyPost_ret (v := .tuple #[zval, .int .i64 900]) (by simp [results, Tryz.results79, go_sem, zval, *]) rfl ?_
    exact ⟨rfl, F1.then f7 fun k hk e => by omega⟩
set_option maxHeartbeats 1000000 in
set_option maxRecDepth 100000 in
theorem refPut_bad2 {w : World} {c : CellV} {ve vl vs : Value} (h : CellR w c ve vl vs) (hb : CellB c) (hk : c.kind = 2) (d : Dt) (hd : dotMay d = true) (v : ByteArray) (hv : v.size ≤ 256) (hex : ∃ e ∈ c.ents, (e.1, e.2.1) = d) :
    Calls Tryz.prog 79 #[cval c ve vl vs, .agg #[.int .i64 d.1, .int .i64 d.2], .string v] w fun e w' => e = .returned (.tuple #[zval, .int .i64 900]) ∧ Frm No w w' := by
  obtain ⟨he, hl, hs⟩ := h
  obtain ⟨ae, ce, rfl⟩ := he.sh
  obtain ⟨al, cl, rfl⟩ := hl.sh
  obtain ⟨at_, cs, rfl⟩ := hs.sh
  unfold cval
  rw [hk]
  have HE := Lib.hid he
  have HX := Lib.hid hex
  have HM := fun W => refDotMay16 d W
  rw [hd] at HM
  have hm1 : c.ents.length ≤ 2 ^ 63 - 1 := by have h1 := hb.e; unfold reachBytes at h1; omega
  clear he hl hs hb hd hk hex
  go_enter Tryz.func79, Tryz.ntmps79
  go_wp2_with (fail)
  refine (HM _).mono ?_
  rintro e w1 ⟨rfl, f1⟩
  have F1 : Frm No w w1 := (((Frm.refl No w).al _).al _).al _ |>.trans f1
  have B1 : w1.heap[w.heap.size]? = some (.cells #[.int .i64 2, .bool c.set, .int .i64 c.st.1, .int .i64 c.st.2, .string c.value, .int .i64 c.num.1, .int .i64 c.num.2, .slice ae c.ents.length ce, .slice al c.elems.length cl, .slice at_ c.seen.length cs] 30 (0, 0)) := f1.obj (al_old (al_old (heap_alloc_new w _))) id
  have D1 : w1.heap[w.heap.size + 1]? = some (.cells #[.int .i64 d.1, .int .i64 d.2] 32 (0, 0)) := f1.obj (al_old (al_at (by simp))) id
  have C1 : w1.heap[w.heap.size + 2]? = some (.cells zlist.toArray 30 (0, 0)) := f1.obj (al_at (by simp)) id
  have q7 : w1.cell? ⟨w.heap.size, 7, none⟩ = some (.slice ae c.ents.length ce) := obj_cell B1 7
  clear f1 HM
  go_wp2
  clear q7
  go_loopg [8, 9] (c.ents.length + 1) (fun g kv iv wr => ∃ (t k : Nat), iv = .int .i64 ((t : Int) - 1) ∧ kv = .int .i64 k ∧ t ≤ c.ents.length ∧ g = t + 1 ∧ Frm No w wr ∧
    wr.heap[w.heap.size]? = some (.cells #[.int .i64 2, .bool c.set, .int .i64 c.st.1, .int .i64 c.st.2, .string c.value, .int .i64 c.num.1, .int .i64 c.num.2, .slice ae c.ents.length ce, .slice al c.elems.length cl, .slice at_ c.seen.length cs] 30 (0, 0)) ∧ wr.heap[w.heap.size + 1]? = some (.cells #[.int .i64 d.1, .int .i64 d.2] 32 (0, 0)) ∧ wr.heap[w.heap.size + 2]? = some (.cells zlist.toArray 30 (0, 0)) ∧ ∃ e ∈ c.ents.take t, (e.1, e.2.1) = d)
  case atStart => exact ⟨c.ents.length, c.ents.length, rfl, rfl, Nat.le_refl _, rfl, F1, B1, D1, C1, by rw [List.take_length]; exact HX.out⟩
  case round =>
    clear F1 B1 D1 C1
    obtain ⟨t, k, hiv, rfl, htn, hg, f, B, D, C, hx2⟩ := hrel
    have hG := Lib.hid hg
    have H2 := Lib.hid hx2
    clear hg hx2
    have q7 : wr.cell? ⟨w.heap.size, 7, none⟩ = some (.slice ae c.ents.length ce) := obj_cell B 7
    have d0 : wr.cell? ⟨w.heap.size + 1, 0, none⟩ = some (.int .i64 d.1) := obj_cell D 0
    have d1 : wr.cell? ⟨w.heap.size + 1, 1, none⟩ = some (.int .i64 d.2) := obj_cell D 1
    cases t with
    | zero =>
      obtain ⟨e, he, -⟩ := H2.out
      simp at he
    | succ i =>
      rw [show ((i + 1 : Nat) : Int) - 1 = i by omega] at hiv
      subst hiv
      have hlt : i < c.ents.length := by omega
      obtain ⟨b, off, rfl, -, hc⟩ := (HE.out.no f).at hlt
      obtain ⟨x, hx⟩ : ∃ x, Hid (x = c.ents[i]) := ⟨_, Lib.hid rfl⟩
      rw [← hx.out] at hc
      have e0 : wr.cell? ⟨b, off + i * 3, none⟩ = some (.int .i64 x.1) := hc 0 _ rfl
      have e1 : wr.cell? ⟨b, off + i * 3 + 1, none⟩ = some (.int .i64 x.2.1) := hc 1 _ rfl
      have e2 : wr.cell? ⟨b, off + i * 3 + 2, none⟩ = some (.string x.2.2) := hc 2 _ rfl
      clear hc
      have hxd : (x.1 = d.1 ∧ x.2.1 = d.2) ∨ (Hid ((x.1, x.2.1) ≠ d) ∧ ¬ x.1 = d.1) ∨ (Hid ((x.1, x.2.1) ≠ d) ∧ x.1 = d.1 ∧ ¬ x.2.1 = d.2) := by
        by_cases h1 : x.1 = d.1
        · by_cases h2 : x.2.1 = d.2
          · exact .inl ⟨h1, h2⟩
          · exact .inr (.inr ⟨Lib.hid fun e => h2 (congrArg Prod.snd e), h1, h2⟩)
        · exact .inr (.inl ⟨Lib.hid fun e => h1 (congrArg Prod.fst e), h1⟩)
      have hLess := fun W => refDotLess d (x.1, x.2.1) W
      rcases hxd with ⟨hxa, hxb⟩ | hxd
      · rw [hxa] at e0
        rw [hxb] at e1
        clear hLess hxa hxb
        go_wp2
        refine wp_region_plan [([0, 1, 2, 3, 4, 5, 6, 7], [])] 77 (by kernel_rfl) (by kernel_rfl) (by simp) ?_
        intro N hN
        simp only [wpSegs, List.map_cons, List.map_nil, List.getD_cons_zero, List.getD_cons_succ]
        have C1 := C
        have F1 := f.trans (Frm.drew No wr)
        go_wp2_with (refine wpList_sto _ rfl (.tmp 6) (.tmp 44) 30 rfl C1 (by kernel_rfl) (by rfl) zone rfl rfl ?_)
        intro w7 C7 f7 z7
        obtain ⟨t0, t1, t2, t3, t4, t5, t6, t7, t8, t9⟩ := obj10 C7
        go_wp2
        refine bodyPost_ret (v := .tuple #[zval, .int .i64 900]) (by simp [results, Tryz.results79, go_sem, zval, *]) rfl ?_
        exact ⟨rfl, F1.then f7 fun k hk e => by omega⟩
      · have hne : Hid ((x.1, x.2.1) ≠ d) := by rcases hxd with h | h <;> exact h.1
        have h3 : ∃ e ∈ c.ents.take i, (e.1, e.2.1) = d := by
          obtain ⟨e, he, h⟩ := H2.out
          rw [List.take_succ_eq_append_getElem hlt, List.mem_append] at he
          rcases he with he | he
          · exact ⟨e, he, h⟩
          · rw [List.mem_singleton, ← hx.out] at he
            subst he
            exact absurd h hne.out
        have H3 := Lib.hid h3
        obtain ⟨bb, hbb⟩ : ∃ bb, Hid (bb = dotLess d (x.1, x.2.1)) := ⟨_, Lib.hid rfl⟩
        rw [← hbb.out] at hLess
        clear h3
        simp only [] at hLess
        rcases hxd with ⟨-, hxd⟩ | ⟨-, hxa, hxd⟩
        all_goals (try simp only [hxa] at hLess)
        all_goals cases bb
        all_goals go_wp2
        all_goals refine wp_region_plan [([0, 1, 2, 3, 4, 5, 6, 7], [])] 77 (by kernel_rfl) (by kernel_rfl) (by simp) ?_
        all_goals intro N hN
        all_goals simp only [wpSegs, List.map_cons, List.map_nil, List.getD_cons_zero, List.getD_cons_succ]
        all_goals go_wp2
        all_goals refine wp_region_plan [([0, 1, 2, 3, 4, 5, 6, 7], [])] 77 (by kernel_rfl) (by kernel_rfl) (by simp) ?_
        all_goals intro N2 hN2
        all_goals simp only [wpSegs, List.map_cons, List.map_nil, List.getD_cons_zero, List.getD_cons_succ]
        all_goals go_wp2_with (fail)
        all_goals refine (hLess _).mono ?_
        all_goals rintro e w2 ⟨rfl, f2⟩
        all_goals clear hLess
        all_goals go_wp2
        all_goals go_roundg (i + 1)
        all_goals first
          | (have := hG.out; omega)
          | exact ⟨i, k, by go_num, rfl, by omega, rfl, (f.trans ((Frm.drew No _).trans ((Frm.drew No _).trans f2))), f2.obj B id, f2.obj D id, f2.obj C id, H3.out⟩
          | exact ⟨i, i, by go_num, rfl, by omega, rfl, (f.trans ((Frm.drew No _).trans ((Frm.drew No _).trans f2))), f2.obj B id, f2.obj D id, f2.obj C id, H3.out⟩
set_option maxRecDepth 100000 in
theorem refValues_bad {w : World} {c : CellV} {ve vl vs : Value} (h : CellR w c ve vl vs) (hk : c.kind ≠ 2) :
    Calls Tryz.prog 44 #[cval c ve vl vs] w fun e w' => e = .returned (.tuple #[.slice none 0 0, .int .i64 900]) ∧ Frm No w w' := by
  unfold cval
  go_enter Tryz.func44, Tryz.ntmps44
  go_wp2
  go_ret2
  exact ⟨rfl, (Frm.refl No w).al _⟩
set_option maxRecDepth 100000 in
theorem refDrop_bad {w : World} {c : CellV} {ve vl vs : Value} (h : CellR w c ve vl vs) (hk : c.kind ≠ 2) (a : Option Addr) (n m : Nat) :
    Calls Tryz.prog 80 #[cval c ve vl vs, .slice a n m] w fun e w' => e = .returned (.tuple #[zval, .int .i64 900]) ∧ Frm No w w' := by
  obtain ⟨ae, ce, rfl⟩ := h.e.sh
  obtain ⟨al, cl, rfl⟩ := h.l.sh
  obtain ⟨at_, cs, rfl⟩ := h.s.sh
  unfold cval
  have C0 : ((w.alloc (.cells #[.int .i64 c.kind, .bool c.set, .int .i64 c.st.1, .int .i64 c.st.2, .string c.value, .int .i64 c.num.1, .int .i64 c.num.2, .slice ae c.ents.length ce, .slice al c.elems.length cl, .slice at_ c.seen.length cs] 30)).alloc (.cells zlist.toArray 30)).heap[w.heap.size + 1]? = some (.cells zlist.toArray 30 (0, 0)) := al_at (by simp)
  have F0 : Frm No w ((w.alloc (.cells #[.int .i64 c.kind, .bool c.set, .int .i64 c.st.1, .int .i64 c.st.2, .string c.value, .int .i64 c.num.1, .int .i64 c.num.2, .slice ae c.ents.length ce, .slice al c.elems.length cl, .slice at_ c.seen.length cs] 30)).alloc (.cells zlist.toArray 30)) := ((Frm.refl No w).al _).al _
  clear h
  go_enter Tryz.func80, Tryz.ntmps80
  go_wp2_with (refine wpList_sto _ rfl (.tmp 4) (.tmp 11) 30 rfl C0 (by kernel_rfl) (by rfl) zone rfl rfl ?_)
  intro w7 C7 f7 z7
  obtain ⟨t0, t1, t2, t3, t4, t5, t6, t7, t8, t9⟩ := obj10 C7
  go_wp2
  refine bodyPost_ret (v := .tuple #[zval, .int .i64 900]) (by simp [results, Tryz.results80, go_sem, zval, *]) rfl ?_
  exact ⟨rfl, F0.then f7 fun k hk e => by omega⟩
end Go.Proofs.YtofikfkgiblblaaGreatDoor

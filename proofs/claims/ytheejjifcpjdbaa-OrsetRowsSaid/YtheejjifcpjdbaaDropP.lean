/- Sets: orset.Drop. -/
import Derived.Test.YtheejjifcpjdbaaDel
import Derived.Test.YtheejjifcpjdbaaPutF
namespace Go.Proofs.Ytheejjifcpjdbaa
set_option linter.unusedVariables false
set_option linter.unusedSimpArgs false
open Go.RowKit Go.Lib Go.Tt Go.Shelf
set_option maxHeartbeats 1000000 in
set_option maxRecDepth 100000 in
theorem drop_ok {w : World} {c : CellV} {ve vl vs : Value} (h : CellR w c ve vl vs) (hb : CellB c) (hk : c.kind = 2) {ad : Option Addr} {nd cd : Nat} {ds : List Dt} (hd : RdS w eDt (.slice ad nd cd) ds) :
    Calls Try.prog 43 #[cval c ve vl vs, .slice ad nd cd] w fun e w' => ∃ ve' vl' vs', e = .returned (.tuple #[cval { c with ents := dropped c.ents ds } ve' vl' vs', .int .i64 0]) ∧ CellO w' (Nw No w w') { c with ents := dropped c.ents ds } ve' vl' vs' ∧ Frm No w w' := by
  obtain ⟨he, hl, hs⟩ := h
  have HR := Lib.hid (⟨he, hl, hs⟩ : CellR w c ve vl vs)
  obtain ⟨ae, ce, rfl⟩ := he.sh
  obtain ⟨al, cl, rfl⟩ := hl.sh
  obtain ⟨at_, cs, rfl⟩ := hs.sh
  have hcv : cval c (.slice ae c.ents.length ce) (.slice al c.elems.length cl) (.slice at_ c.seen.length cs) = .agg #[.int .i64 2, .bool c.set, .int .i64 c.st.1, .int .i64 c.st.2, .string c.value, .int .i64 c.num.1, .int .i64 c.num.2, .slice ae c.ents.length ce, .slice al c.elems.length cl, .slice at_ c.seen.length cs] := by unfold cval; rw [hk]
  rw [hcv]
  have HV := Lib.hid hcv
  have HK := Lib.hid hk
  have HB := Lib.hid hb
  have HD := Lib.hid hd
  clear he hl hs hb hk hcv hd
  have B3 : (((w.alloc (.cells #[.int .i64 2, .bool c.set, .int .i64 c.st.1, .int .i64 c.st.2, .string c.value, .int .i64 c.num.1, .int .i64 c.num.2, .slice ae c.ents.length ce, .slice al c.elems.length cl, .slice at_ c.seen.length cs] 59)).alloc (.cells #[.slice ad nd cd] 62)).alloc (.cells zlist.toArray 59)).heap[w.heap.size]? = some (.cells #[.int .i64 2, .bool c.set, .int .i64 c.st.1, .int .i64 c.st.2, .string c.value, .int .i64 c.num.1, .int .i64 c.num.2, .slice ae c.ents.length ce, .slice al c.elems.length cl, .slice at_ c.seen.length cs] 59 (0, 0)) := al_old (al_old (heap_alloc_new w _))
  have D3 : (((w.alloc (.cells #[.int .i64 2, .bool c.set, .int .i64 c.st.1, .int .i64 c.st.2, .string c.value, .int .i64 c.num.1, .int .i64 c.num.2, .slice ae c.ents.length ce, .slice al c.elems.length cl, .slice at_ c.seen.length cs] 59)).alloc (.cells #[.slice ad nd cd] 62)).alloc (.cells zlist.toArray 59)).heap[w.heap.size + 1]? = some (.cells #[.slice ad nd cd] 62 (0, 0)) := al_old (al_at (by simp))
  have C3 : (((w.alloc (.cells #[.int .i64 2, .bool c.set, .int .i64 c.st.1, .int .i64 c.st.2, .string c.value, .int .i64 c.num.1, .int .i64 c.num.2, .slice ae c.ents.length ce, .slice al c.elems.length cl, .slice at_ c.seen.length cs] 59)).alloc (.cells #[.slice ad nd cd] 62)).alloc (.cells zlist.toArray 59)).heap[w.heap.size + 2]? = some (.cells zlist.toArray 59 (0, 0)) := al_at (by simp)
  have F3 : Frm No w (((w.alloc (.cells #[.int .i64 2, .bool c.set, .int .i64 c.st.1, .int .i64 c.st.2, .string c.value, .int .i64 c.num.1, .int .i64 c.num.2, .slice ae c.ents.length ce, .slice al c.elems.length cl, .slice at_ c.seen.length cs] 59)).alloc (.cells #[.slice ad nd cd] 62)).alloc (.cells zlist.toArray 59)) := (((Frm.refl No w).al _).al _).al _
  have hm1 : c.ents.length ≤ 2 ^ 63 - 1 := by have h1 := HB.out.e; unfold reachBytes at h1; omega
  have hcp := lwwCopy_ok (HR.out.no F3) HB.out
  rw [HV.out] at hcp
  go_enter Try.func43, Try.ntmps43
  go_wp2_with (fail)
  change Calls Try.prog _ _ (((w.alloc (.cells #[.int .i64 2, .bool c.set, .int .i64 c.st.1, .int .i64 c.st.2, .string c.value, .int .i64 c.num.1, .int .i64 c.num.2, .slice ae c.ents.length ce, .slice al c.elems.length cl, .slice at_ c.seen.length cs] 59)).alloc (.cells #[.slice ad nd cd] 62)).alloc (.cells zlist.toArray 59)) _
  generalize hw3 : (((w.alloc (.cells #[.int .i64 2, .bool c.set, .int .i64 c.st.1, .int .i64 c.st.2, .string c.value, .int .i64 c.num.1, .int .i64 c.num.2, .slice ae c.ents.length ce, .slice al c.elems.length cl, .slice at_ c.seen.length cs] 59)).alloc (.cells #[.slice ad nd cd] 62)).alloc (.cells zlist.toArray 59)) = w3 at B3 D3 C3 F3 hcp ⊢
  clear hw3
  have n3 : w.heap.size + 2 < w3.heap.size := lt_of_block C3
  have n31 : w.heap.size + 1 < w3.heap.size := lt_of_block D3
  have n30 : w.heap.size < w3.heap.size := lt_of_block B3
  refine hcp.mono ?_
  rintro e w4 ⟨ve', vl', vs', rfl, o4, f4⟩
  obtain ⟨a4, c4, rfl⟩ := o4.e.sh
  obtain ⟨a5, c5, rfl⟩ := o4.l.sh
  obtain ⟨a6, c6, rfl⟩ := o4.s.sh
  rw [show cval c (.slice a4 c.ents.length c4) (.slice a5 c.elems.length c5) (.slice a6 c.seen.length c6) = .agg #[.int .i64 2, .bool c.set, .int .i64 c.st.1, .int .i64 c.st.2, .string c.value, .int .i64 c.num.1, .int .i64 c.num.2, .slice a4 c.ents.length c4, .slice a5 c.elems.length c5, .slice a6 c.seen.length c6] by unfold cval; rw [HK.out]]
  have F4 := F3.next f4
  have z4 := f4.size
  have B4 := f4.obj B3 id
  have C4 := f4.obj C3 id
  have D4 := f4.obj D3 id
  clear hcp B3 C3 F3
  have hone : ∀ (v1 v2 v3 : Value), v1.oneCell' = true → v2.oneCell' = true → v3.oneCell' = true → ∀ u ∈ [Value.int .i64 2, .bool c.set, .int .i64 c.st.1, .int .i64 c.st.2, .string c.value, .int .i64 c.num.1, .int .i64 c.num.2, v1, v2, v3], u.oneCell' = true := by
    intro v1 v2 v3 h1 h2 h3 u hu
    simp only [List.mem_cons, List.not_mem_nil, or_false] at hu
    rcases hu with rfl | rfl | rfl | rfl | rfl | rfl | rfl | rfl | rfl | rfl <;> first | rfl | assumption
  go_wp2_with (refine wpList_sto _ rfl (.tmp 2) (.tmp 11) 59 rfl B4 (by kernel_rfl) (by rfl) (hone (.slice a4 c.ents.length c4) (.slice a5 c.elems.length c5) (.slice a6 c.seen.length c6) rfl rfl rfl) rfl rfl ?_)
  intro w5 B5 f5 z5
  have C5 := f5.obj C4 (by omega)
  have D5 := f5.obj D4 (by omega)
  have q7 : w5.cell? ⟨w.heap.size, 7, none⟩ = some (.slice a4 c.ents.length c4) := obj_cell B5 7
  have d0 : w5.cell? ⟨w.heap.size + 1, 0, none⟩ = some (.slice ad nd cd) := obj_cell D5 0
  have n5 : w.heap.size < w5.heap.size := lt_of_block B5
  have hty : ∀ t k, Ty w4 t (Nw No w3 w4) k → w3.heap.size ≤ k ∧ k < w4.heap.size := fun t k h => by rcases h.1 with hk | hk; exact hk.elim; exact hk
  have o5 := o4.e.ty.frm f5 fun k hk e => by have := hty _ k hk; omega
  have l5 := o4.l.ty.frm f5 fun k hk e => by have := hty _ k hk; omega
  have s5 := o4.s.ty.frm f5 fun k hk e => by have := hty _ k hk; omega
  go_wp2_with (fail)
  have p1 : PredF (Ty w4 90 (Nw No w3 w4)) w5 73 #[.pointer (some ⟨w.heap.size + 1, 0, none⟩)] (fun e => decide ((e.1, e.2.1) ∈ ds)) := fun W x f => by
    have hds5 := ((HD.out.no F4).frm f5 fun k hk e => by have := HD.out.blk_lt hk; omega).frm f fun k hk h => by have := HD.out.blk_lt hk; have := hty _ _ h; omega
    exact drop1_ok hds5 (f.obj D5 fun h => by have := hty _ _ h; omega) x
  have hdel := delFunc_ok o5 p1 (enters_of Try.func73 (by kernel_rfl) rfl)
  refine hdel.mono ?_
  rintro e w6 ⟨n7, rfl, o6, f6⟩
  clear hdel d0 q7 n5
  have hN : ∀ k, k < w3.heap.size → ¬ Ty w4 90 (Nw No w3 w4) k := fun k hk h => by have := hty _ _ h; omega
  have l6 := l5.frm f6 fun k hk => hk.apart (by decide)
  have s6 := s5.frm f6 fun k hk => hk.apart (by decide)
  have B6 := f6.obj B5 (hN _ n30)
  have C6 := f6.obj C5 (hN _ n3)
  have z6 : w4.heap.size ≤ w6.heap.size := by have := f6.size; omega
  have n6 : w.heap.size < w6.heap.size := lt_of_block B6
  obtain ⟨q0, q1, q2, q3, q4, q5, q6, q7, q8, q9⟩ := obj10 B6
  have r3 := obj_frz B6
  go_wp2_with (refine wpList_sto _ rfl (.tmp 4) (.tmp 17) 59 rfl (obj_setCell_ne C6 (by omega) (.slice a4 n7 c4)) (by kernel_rfl) (by rfl) (hone (.slice a4 n7 c4) (.slice a5 c.elems.length c5) (.slice a6 c.seen.length c6) rfl rfl rfl) rfl rfl ?_)
  intro w7 C7 f7 z7
  obtain ⟨t0, t1, t2, t3, t4, t5, t6, t7, t8, t9⟩ := obj10 C7
  clear q0 q1 q2 q3 q4 q5 q6 q7 q8 q9 r3
  go_wp2
  refine bodyPost_ret (v := .tuple #[.agg #[.int .i64 2, .bool c.set, .int .i64 c.st.1, .int .i64 c.st.2, .string c.value, .int .i64 c.num.1, .int .i64 c.num.2, .slice a4 n7 c4, .slice a5 c.elems.length c5, .slice a6 c.seen.length c6], .int .i64 0]) (by simp [results, Try.results43, go_sem, *]) rfl ?_
  have hpe : c.ents.filter (fun x => !decide ((x.1, x.2.1) ∈ ds)) = dropped c.ents ds := by unfold dropped; congr 1; funext x; exact (decide_not).symm
  have G67 : Frm (fun k => w.heap.size ≤ k ∧ k < w.heap.size + 3) w6 w7 := (Frm.setCell (F := fun k => w.heap.size ≤ k ∧ k < w.heap.size + 3) w6 ⟨w.heap.size, 7, none⟩ (.slice a4 n7 c4) (by show w.heap.size ≤ w.heap.size ∧ w.heap.size < w.heap.size + 3; omega)).trans (f7.mono fun k _ hk => by omega)
  have hG2 : ∀ k, w.heap.size + 3 ≤ k → ¬ (w.heap.size ≤ k ∧ k < w.heap.size + 3) := fun k h => by omega
  have G57 : Frm (fun k => w.heap.size ≤ k) w5 w7 := (f6.mono fun k _ h => by have := hty _ _ h; omega).trans (G67.mono fun k _ h => h.1)
  have z67 : w7.heap.size = w6.heap.size := z7
  have e1 : Ow w7 (fun k => w.heap.size + 3 ≤ k) 90 eEn (.slice a4 n7 c4) (dropped c.ents ds) := by
    rw [← hpe]
    exact (o6.mono (G := fun k => w.heap.size + 3 ≤ k) fun k hk h => by have := hty _ _ h; omega).frm G67 hG2
  have l7 := (l6.mono (G := fun k => w.heap.size + 3 ≤ k) fun k hk h => by have := hty _ _ h; omega).frm G67 hG2
  have s7 := (s6.mono (G := fun k => w.heap.size + 3 ≤ k) fun k hk h => by have := hty _ _ h; omega).frm G67 hG2
  refine ⟨.slice a4 n7 c4, _, _, ?_, ⟨e1.fin (by omega), l7.fin (by omega), s7.fin (by omega)⟩, (F4.then f5 fun k hk h => by omega).then G57 fun k hk hh => by omega⟩
  unfold cval
  dsimp only
  rw [HK.out]
end Go.Proofs.Ytheejjifcpjdbaa

/- Merged: PutF DropP LaySort Vals. -/
import Derived.Test.YtgpdpalhkkjmiaaGreatDoorProg
import Derived.Shelf.SortM.Plain
import Derived.Shelf.SortM.SortNone
import Derived.Shelf.SlicesE.Compact
import Derived.Sort.OwnSorted
import Derived.Lib.OwnBridge
import Derived.Test.YtgpdpalhkkjmiaaGreatDoorV03
import Derived.Test.YtgpdpalhkkjmiaaGreatDoorV07
import Derived.Test.YtgpdpalhkkjmiaaGreatDoorV09
/- Sets: orset.Put, what may not be put. -/
namespace Go.Proofs.YtgpdpalhkkjmiaaGreatDoor
set_option linter.unusedVariables false
set_option linter.unusedSimpArgs false
set_option linter.unusedVariables false
set_option linter.unusedSimpArgs false
open Go.RowKit Go.Lib Go.Tt Go.Shelf
/-- The empty cell. -/
def zval : Value := .agg #[.int .i64 0, .bool false, .int .i64 0, .int .i64 0, .string ⟨#[]⟩, .int .i64 0, .int .i64 0, .slice none 0 0, .slice none 0 0, .slice none 0 0]
def zlist : List Value := [.int .i64 0, .bool false, .int .i64 0, .int .i64 0, .string ⟨#[]⟩, .int .i64 0, .int .i64 0, .slice none 0 0, .slice none 0 0, .slice none 0 0]
theorem zone : ∀ u ∈ zlist, u.oneCell' = true := by
  intro u hu
  simp only [zlist, List.mem_cons, List.not_mem_nil, or_false] at hu
  rcases hu with rfl | rfl | rfl | rfl | rfl | rfl | rfl | rfl | rfl | rfl <;> rfl
set_option maxHeartbeats 1000000 in
set_option maxRecDepth 100000 in
theorem put_bad {w : World} {c : CellV} {ve vl vs : Value} (h : CellR w c ve vl vs) (d : Dt) (v : ByteArray) (hvm : v.size ≤ maxLen) (hbad : c.kind ≠ 2 ∨ dotMay d = false ∨ 256 < v.size ∨ ∃ e ∈ c.ents, (e.1, e.2.1) = d) :
    Calls Tryz.prog 72 #[cval c ve vl vs, .agg #[.int .i64 d.1, .int .i64 d.2], .string v] w fun e w' => e = .returned (.tuple #[zval, .int .i64 900]) ∧ Frm No w w' := by
  obtain ⟨he, hl, hs⟩ := h
  have HR := Lib.hid (⟨he, hl, hs⟩ : CellR w c ve vl vs)
  obtain ⟨ae, ce, rfl⟩ := he.sh
  obtain ⟨al, cl, rfl⟩ := hl.sh
  obtain ⟨at_, cs, rfl⟩ := hs.sh
  unfold cval
  unfold maxLen at hvm
  have HM := fun W => dotMay16 d W
  have HL := fun W => lwwValue_ok v W hvm
  have HBd := Lib.hid hbad
  clear he hl hs hbad
  have C0 : (((w.alloc (.cells #[.int .i64 c.kind, .bool c.set, .int .i64 c.st.1, .int .i64 c.st.2, .string c.value, .int .i64 c.num.1, .int .i64 c.num.2, .slice ae c.ents.length ce, .slice al c.elems.length cl, .slice at_ c.seen.length cs] 75)).alloc (.cells #[.int .i64 d.1, .int .i64 d.2] 83)).alloc (.cells zlist.toArray 75)).heap[w.heap.size + 2]? = some (.cells zlist.toArray 75 (0, 0)) := al_at (by simp)
  have F0 : Frm No w (((w.alloc (.cells #[.int .i64 c.kind, .bool c.set, .int .i64 c.st.1, .int .i64 c.st.2, .string c.value, .int .i64 c.num.1, .int .i64 c.num.2, .slice ae c.ents.length ce, .slice al c.elems.length cl, .slice at_ c.seen.length cs] 75)).alloc (.cells #[.int .i64 d.1, .int .i64 d.2] 83)).alloc (.cells zlist.toArray 75)) := (((Frm.refl No w).al _).al _).al _
  by_cases hk : c.kind = 2
  · rw [hk] at C0 F0 ⊢
    have hbad := HBd.out
    rcases hdm : dotMay d with _ | _
    · rw [hdm] at HM
      clear hbad
      have hK := Lib.hid hk
      have hD := Lib.hid hdm
      clear hk hdm HL
      go_enter Tryz.func72, Tryz.ntmps72
      go_wp2_with (fail)
      refine (HM _).mono ?_
      rintro e w1 ⟨rfl, f1⟩
      have C1 := f1.obj C0 id
      have F1 := F0.trans f1
      clear HM
      go_wp2_with (refine wpList_sto _ rfl (.tmp 6) (.tmp 30) 75 rfl C1 (by kernel_rfl) (by rfl) zone rfl rfl ?_)
      intro w7 C7 f7 z7
      obtain ⟨t0, t1, t2, t3, t4, t5, t6, t7, t8, t9⟩ := obj10 C7
      go_wp2
      refine bodyPost_ret (v := .tuple #[zval, .int .i64 900]) (by simp [results, Tryz.results72, go_sem, zval, *]) rfl ?_
      exact ⟨rfl, F1.then f7 fun k hk e => by omega⟩
    · rw [hdm] at HM
      by_cases hs : v.size ≤ 256
      · rw [decide_eq_true hs] at HL
        have hex : ∃ e ∈ c.ents, (e.1, e.2.1) = d := by
          rcases hbad with h | h | h | h
          · exact absurd hk h
          · rw [hdm] at h; cases h
          · omega
          · exact h
        have hany : c.ents.any (fun e => decide ((e.1, e.2.1) = d)) = true := by
          obtain ⟨x, hx, e⟩ := hex
          exact List.any_eq_true.2 ⟨x, hx, decide_eq_true e⟩
        have HA := Lib.hid hany
        have D0 : (((w.alloc (.cells #[.int .i64 2, .bool c.set, .int .i64 c.st.1, .int .i64 c.st.2, .string c.value, .int .i64 c.num.1, .int .i64 c.num.2, .slice ae c.ents.length ce, .slice al c.elems.length cl, .slice at_ c.seen.length cs] 75)).alloc (.cells #[.int .i64 d.1, .int .i64 d.2] 83)).alloc (.cells zlist.toArray 75)).heap[w.heap.size + 1]? = some (.cells #[.int .i64 d.1, .int .i64 d.2] 83 (0, 0)) := al_old (al_at (by simp))
        have B0 : (((w.alloc (.cells #[.int .i64 2, .bool c.set, .int .i64 c.st.1, .int .i64 c.st.2, .string c.value, .int .i64 c.num.1, .int .i64 c.num.2, .slice ae c.ents.length ce, .slice al c.elems.length cl, .slice at_ c.seen.length cs] 75)).alloc (.cells #[.int .i64 d.1, .int .i64 d.2] 83)).alloc (.cells zlist.toArray 75)).heap[w.heap.size]? = some (.cells #[.int .i64 2, .bool c.set, .int .i64 c.st.1, .int .i64 c.st.2, .string c.value, .int .i64 c.num.1, .int .i64 c.num.2, .slice ae c.ents.length ce, .slice al c.elems.length cl, .slice at_ c.seen.length cs] 75 (0, 0)) := al_old (al_old (heap_alloc_new w _))
        clear hbad hk hdm hex hany hs
        go_enter Tryz.func72, Tryz.ntmps72
        go_wp2_with (fail)
        refine (HM _).mono ?_
        rintro e w1 ⟨rfl, f1⟩
        have C1 := f1.obj C0 id
        have B1 := f1.obj B0 id
        have D1 := f1.obj D0 id
        have F1 := F0.trans f1
        have q7 : w1.cell? ⟨w.heap.size, 7, none⟩ = some (.slice ae c.ents.length ce) := obj_cell B1 7
        clear HM C0 F0 D0 B0 f1
        go_wp2_with (fail)
        refine (HL _).mono ?_
        rintro e w2 ⟨rfl, rfl⟩
        clear HL
        go_wp2_with (fail)
        have p1 : PredOk w1 96 #[.pointer (some ⟨w.heap.size + 1, 0, none⟩)] (fun e => decide ((e.1, e.2.1) = d)) := fun W x f => put1_ok (f.obj D1 id) x
        have HC := containsFunc_ok (HR.out.no F1).e p1 (enters_of Tryz.func96 (by kernel_rfl) rfl)
        rw [HA.out] at HC
        refine HC.mono ?_
        rintro e w2 ⟨rfl, f2⟩
        replace F1 := F1.trans f2
        replace C1 := f2.obj C1 id
        clear HC p1 f2 B1 D1 q7
        go_wp2_with (refine wpList_sto _ rfl (.tmp 6) (.tmp 30) 75 rfl C1 (by kernel_rfl) (by rfl) zone rfl rfl ?_)
        intro w7 C7 f7 z7
        obtain ⟨t0, t1, t2, t3, t4, t5, t6, t7, t8, t9⟩ := obj10 C7
        go_wp2
        refine bodyPost_ret (v := .tuple #[zval, .int .i64 900]) (by simp [results, Tryz.results72, go_sem, zval, *]) rfl ?_
        exact ⟨rfl, F1.then f7 fun k hk e => by omega⟩
      · rw [decide_eq_false hs] at HL
        clear hbad hk hdm
        have hS := Lib.hid hs
        clear hs
        go_enter Tryz.func72, Tryz.ntmps72
        go_wp2_with (fail)
        refine (HM _).mono ?_
        rintro e w1 ⟨rfl, f1⟩
        have C1 := f1.obj C0 id
        have F1 := F0.trans f1
        clear HM
        go_wp2_with (fail)
        refine (HL _).mono ?_
        rintro e w2 ⟨rfl, rfl⟩
        clear HL
        go_wp2_with (refine wpList_sto _ rfl (.tmp 6) (.tmp 30) 75 rfl C1 (by kernel_rfl) (by rfl) zone rfl rfl ?_)
        intro w7 C7 f7 z7
        obtain ⟨t0, t1, t2, t3, t4, t5, t6, t7, t8, t9⟩ := obj10 C7
        go_wp2
        refine bodyPost_ret (v := .tuple #[zval, .int .i64 900]) (by simp [results, Tryz.results72, go_sem, zval, *]) rfl ?_
        exact ⟨rfl, F1.then f7 fun k hk e => by omega⟩
  · go_enter Tryz.func72, Tryz.ntmps72
    go_wp2_with (refine wpList_sto _ rfl (.tmp 6) (.tmp 30) 75 rfl C0 (by kernel_rfl) (by rfl) zone rfl rfl ?_)
    intro w7 C7 f7 z7
    obtain ⟨t0, t1, t2, t3, t4, t5, t6, t7, t8, t9⟩ := obj10 C7
    go_wp2
    refine bodyPost_ret (v := .tuple #[zval, .int .i64 900]) (by simp [results, Tryz.results72, go_sem, zval, *]) rfl ?_
    exact ⟨rfl, F0.then f7 fun k hk e => by omega⟩
end Go.Proofs.YtgpdpalhkkjmiaaGreatDoor

/- Sets: orset.Drop. -/
namespace Go.Proofs.YtgpdpalhkkjmiaaGreatDoor
set_option linter.unusedVariables false
set_option linter.unusedSimpArgs false
open Go.RowKit Go.Lib Go.Tt Go.Shelf
set_option maxHeartbeats 1000000 in
set_option maxRecDepth 100000 in
theorem drop_ok {w : World} {c : CellV} {ve vl vs : Value} (h : CellR w c ve vl vs) (hb : CellB c) (hk : c.kind = 2) {ad : Option Addr} {nd cd : Nat} {ds : List Dt} (hd : RdS w eDt (.slice ad nd cd) ds) :
    Calls Tryz.prog 71 #[cval c ve vl vs, .slice ad nd cd] w fun e w' => ∃ ve' vl' vs', e = .returned (.tuple #[cval { c with ents := dropped c.ents ds } ve' vl' vs', .int .i64 0]) ∧ CellO w' (Nw No w w') { c with ents := dropped c.ents ds } ve' vl' vs' ∧ Frm No w w' := by
  obtain ⟨he, hl, hs⟩ := h
  have HR := Lib.hid (⟨he, hl, hs⟩ : CellR w c ve vl vs)
  obtain ⟨ae, ce, rfl⟩ := he.sh
  obtain ⟨al, cl, rfl⟩ := hl.sh
  obtain ⟨at_, cs, rfl⟩ := hs.sh
  have hcv : cval c (.slice ae c.ents.length ce) (.slice al c.elems.length cl) (.slice at_ c.seen.length cs) = .agg #[.int .i64 2, .bool c.set, .int .i64 c.st.1, .int .i64 c.st.2, .string c.value, .int .i64 c.num.1, .int .i64 c.num.2, .slice ae c.ents.length ce, .slice al c.elems.length cl, .slice at_ c.seen.length cs] := by unfold cval; rw [hk]
  rw [hcv]
  have HV := Lib.hid hcv
  have HK := Lib.hid hk
  have HB := Lib.hid hb
  have HD := Lib.hid hd
  clear he hl hs hb hk hcv hd
  have B3 : (((w.alloc (.cells #[.int .i64 2, .bool c.set, .int .i64 c.st.1, .int .i64 c.st.2, .string c.value, .int .i64 c.num.1, .int .i64 c.num.2, .slice ae c.ents.length ce, .slice al c.elems.length cl, .slice at_ c.seen.length cs] 75)).alloc (.cells #[.slice ad nd cd] 76)).alloc (.cells zlist.toArray 75)).heap[w.heap.size]? = some (.cells #[.int .i64 2, .bool c.set, .int .i64 c.st.1, .int .i64 c.st.2, .string c.value, .int .i64 c.num.1, .int .i64 c.num.2, .slice ae c.ents.length ce, .slice al c.elems.length cl, .slice at_ c.seen.length cs] 75 (0, 0)) := al_old (al_old (heap_alloc_new w _))
  have D3 : (((w.alloc (.cells #[.int .i64 2, .bool c.set, .int .i64 c.st.1, .int .i64 c.st.2, .string c.value, .int .i64 c.num.1, .int .i64 c.num.2, .slice ae c.ents.length ce, .slice al c.elems.length cl, .slice at_ c.seen.length cs] 75)).alloc (.cells #[.slice ad nd cd] 76)).alloc (.cells zlist.toArray 75)).heap[w.heap.size + 1]? = some (.cells #[.slice ad nd cd] 76 (0, 0)) := al_old (al_at (by simp))
  have C3 : (((w.alloc (.cells #[.int .i64 2, .bool c.set, .int .i64 c.st.1, .int .i64 c.st.2, .string c.value, .int .i64 c.num.1, .int .i64 c.num.2, .slice ae c.ents.length ce, .slice al c.elems.length cl, .slice at_ c.seen.length cs] 75)).alloc (.cells #[.slice ad nd cd] 76)).alloc (.cells zlist.toArray 75)).heap[w.heap.size + 2]? = some (.cells zlist.toArray 75 (0, 0)) := al_at (by simp)
  have F3 : Frm No w (((w.alloc (.cells #[.int .i64 2, .bool c.set, .int .i64 c.st.1, .int .i64 c.st.2, .string c.value, .int .i64 c.num.1, .int .i64 c.num.2, .slice ae c.ents.length ce, .slice al c.elems.length cl, .slice at_ c.seen.length cs] 75)).alloc (.cells #[.slice ad nd cd] 76)).alloc (.cells zlist.toArray 75)) := (((Frm.refl No w).al _).al _).al _
  have hm1 : c.ents.length ≤ 2 ^ 63 - 1 := by have h1 := HB.out.e; unfold reachBytes at h1; omega
  have hcp := lwwCopy_ok (HR.out.no F3) HB.out
  rw [HV.out] at hcp
  go_enter Tryz.func71, Tryz.ntmps71
  go_wp2_with (fail)
  change Calls Tryz.prog _ _ (((w.alloc (.cells #[.int .i64 2, .bool c.set, .int .i64 c.st.1, .int .i64 c.st.2, .string c.value, .int .i64 c.num.1, .int .i64 c.num.2, .slice ae c.ents.length ce, .slice al c.elems.length cl, .slice at_ c.seen.length cs] 75)).alloc (.cells #[.slice ad nd cd] 76)).alloc (.cells zlist.toArray 75)) _
  generalize hw3 : (((w.alloc (.cells #[.int .i64 2, .bool c.set, .int .i64 c.st.1, .int .i64 c.st.2, .string c.value, .int .i64 c.num.1, .int .i64 c.num.2, .slice ae c.ents.length ce, .slice al c.elems.length cl, .slice at_ c.seen.length cs] 75)).alloc (.cells #[.slice ad nd cd] 76)).alloc (.cells zlist.toArray 75)) = w3 at B3 D3 C3 F3 hcp ⊢
  clear hw3
  have n3 : w.heap.size + 2 < w3.heap.size := lt_of_block C3
  have n31 : w.heap.size + 1 < w3.heap.size := lt_of_block D3
  have n30 : w.heap.size < w3.heap.size := lt_of_block B3
  refine hcp.mono ?_
  rintro e w4 ⟨ve', vl', vs', rfl, o4, f4⟩
  obtain ⟨a4, c4, rfl⟩ := o4.e.sh
  obtain ⟨a5, c5, rfl⟩ := o4.l.sh
  obtain ⟨a6, c6, rfl⟩ := o4.s.sh
  rw [show cval c (.slice a4 c.ents.length c4) (.slice a5 c.elems.length c5) (.slice a6 c.seen.length c6) = .agg #[.int .i64 2, .bool c.set, .int .i64 c.st.1, .int .i64 c.st.2, .string c.value, .int .i64 c.num.1, .int .i64 c.num.2, .slice a4 c.ents.length c4, .slice a5 c.elems.length c5, .slice a6 c.seen.length c6] by unfold cval; rw [HK.out]]
  have F4 := F3.next f4
  have z4 := f4.size
  have B4 := f4.obj B3 id
  have C4 := f4.obj C3 id
  have D4 := f4.obj D3 id
  clear hcp B3 C3 F3
  have hone : ∀ (v1 v2 v3 : Value), v1.oneCell' = true → v2.oneCell' = true → v3.oneCell' = true → ∀ u ∈ [Value.int .i64 2, .bool c.set, .int .i64 c.st.1, .int .i64 c.st.2, .string c.value, .int .i64 c.num.1, .int .i64 c.num.2, v1, v2, v3], u.oneCell' = true := by
    intro v1 v2 v3 h1 h2 h3 u hu
    simp only [List.mem_cons, List.not_mem_nil, or_false] at hu
    rcases hu with rfl | rfl | rfl | rfl | rfl | rfl | rfl | rfl | rfl | rfl <;> first | rfl | assumption
  go_wp2_with (refine wpList_sto _ rfl (.tmp 2) (.tmp 11) 75 rfl B4 (by kernel_rfl) (by rfl) (hone (.slice a4 c.ents.length c4) (.slice a5 c.elems.length c5) (.slice a6 c.seen.length c6) rfl rfl rfl) rfl rfl ?_)
  intro w5 B5 f5 z5
  have C5 := f5.obj C4 (by omega)
  have D5 := f5.obj D4 (by omega)
  have q7 : w5.cell? ⟨w.heap.size, 7, none⟩ = some (.slice a4 c.ents.length c4) := obj_cell B5 7
  have d0 : w5.cell? ⟨w.heap.size + 1, 0, none⟩ = some (.slice ad nd cd) := obj_cell D5 0
  have n5 : w.heap.size < w5.heap.size := lt_of_block B5
  have hty : ∀ t k, Ty w4 t (Nw No w3 w4) k → w3.heap.size ≤ k ∧ k < w4.heap.size := fun t k h => by rcases h.1 with hk | hk; exact hk.elim; exact hk
  have o5 := o4.e.ty.frm f5 fun k hk e => by have := hty _ k hk; omega
  have l5 := o4.l.ty.frm f5 fun k hk e => by have := hty _ k hk; omega
  have s5 := o4.s.ty.frm f5 fun k hk e => by have := hty _ k hk; omega
  go_wp2_with (fail)
  have p1 : PredF (Ty w4 98 (Nw No w3 w4)) w5 94 #[.pointer (some ⟨w.heap.size + 1, 0, none⟩)] (fun e => decide ((e.1, e.2.1) ∈ ds)) := fun W x f => by
    have hds5 := ((HD.out.no F4).frm f5 fun k hk e => by have := HD.out.blk_lt hk; omega).frm f fun k hk h => by have := HD.out.blk_lt hk; have := hty _ _ h; omega
    exact drop1_ok hds5 (f.obj D5 fun h => by have := hty _ _ h; omega) x
  have hdel := delFunc_ok o5 p1 (enters_of Tryz.func94 (by kernel_rfl) rfl)
  refine hdel.mono ?_
  rintro e w6 ⟨n7, rfl, o6, f6⟩
  clear hdel d0 q7 n5
  have hN : ∀ k, k < w3.heap.size → ¬ Ty w4 98 (Nw No w3 w4) k := fun k hk h => by have := hty _ _ h; omega
  have l6 := l5.frm f6 fun k hk => hk.apart (by decide)
  have s6 := s5.frm f6 fun k hk => hk.apart (by decide)
  have B6 := f6.obj B5 (hN _ n30)
  have C6 := f6.obj C5 (hN _ n3)
  have z6 : w4.heap.size ≤ w6.heap.size := by have := f6.size; omega
  have n6 : w.heap.size < w6.heap.size := lt_of_block B6
  obtain ⟨q0, q1, q2, q3, q4, q5, q6, q7, q8, q9⟩ := obj10 B6
  have r3 := obj_frz B6
  go_wp2_with (refine wpList_sto _ rfl (.tmp 4) (.tmp 17) 75 rfl (obj_setCell_ne C6 (by omega) (.slice a4 n7 c4)) (by kernel_rfl) (by rfl) (hone (.slice a4 n7 c4) (.slice a5 c.elems.length c5) (.slice a6 c.seen.length c6) rfl rfl rfl) rfl rfl ?_)
  intro w7 C7 f7 z7
  obtain ⟨t0, t1, t2, t3, t4, t5, t6, t7, t8, t9⟩ := obj10 C7
  clear q0 q1 q2 q3 q4 q5 q6 q7 q8 q9 r3
  go_wp2
  refine bodyPost_ret (v := .tuple #[.agg #[.int .i64 2, .bool c.set, .int .i64 c.st.1, .int .i64 c.st.2, .string c.value, .int .i64 c.num.1, .int .i64 c.num.2, .slice a4 n7 c4, .slice a5 c.elems.length c5, .slice a6 c.seen.length c6], .int .i64 0]) (by simp [results, Tryz.results71, go_sem, *]) rfl ?_
  have hpe : c.ents.filter (fun x => !decide ((x.1, x.2.1) ∈ ds)) = dropped c.ents ds := by unfold dropped; congr 1; funext x; exact (decide_not).symm
  have G67 : Frm (fun k => w.heap.size ≤ k ∧ k < w.heap.size + 3) w6 w7 := (Frm.setCell (F := fun k => w.heap.size ≤ k ∧ k < w.heap.size + 3) w6 ⟨w.heap.size, 7, none⟩ (.slice a4 n7 c4) (by show w.heap.size ≤ w.heap.size ∧ w.heap.size < w.heap.size + 3; omega)).trans (f7.mono fun k _ hk => by omega)
  have hG2 : ∀ k, w.heap.size + 3 ≤ k → ¬ (w.heap.size ≤ k ∧ k < w.heap.size + 3) := fun k h => by omega
  have G57 : Frm (fun k => w.heap.size ≤ k) w5 w7 := (f6.mono fun k _ h => by have := hty _ _ h; omega).trans (G67.mono fun k _ h => h.1)
  have z67 : w7.heap.size = w6.heap.size := z7
  have e1 : Ow w7 (fun k => w.heap.size + 3 ≤ k) 98 eEn (.slice a4 n7 c4) (dropped c.ents ds) := by
    rw [← hpe]
    exact (o6.mono (G := fun k => w.heap.size + 3 ≤ k) fun k hk h => by have := hty _ _ h; omega).frm G67 hG2
  have l7 := (l6.mono (G := fun k => w.heap.size + 3 ≤ k) fun k hk h => by have := hty _ _ h; omega).frm G67 hG2
  have s7 := (s6.mono (G := fun k => w.heap.size + 3 ≤ k) fun k hk h => by have := hty _ _ h; omega).frm G67 hG2
  refine ⟨.slice a4 n7 c4, _, _, ?_, ⟨e1.fin (by omega), l7.fin (by omega), s7.fin (by omega)⟩, (F4.then f5 fun k hk h => by omega).then G57 fun k hk hh => by omega⟩
  unfold cval
  dsimp only
  rw [HK.out]
end Go.Proofs.YtgpdpalhkkjmiaaGreatDoor

/- The layings of slices.Sort and slices.Compact at strings (printed by lay.py for this seat). -/
namespace Go.Proofs
set_option linter.unusedVariables false
set_option linter.unusedSimpArgs false
open Go.Shelf
def Tryz.l76_ren : Go.Shelf.Ren := ⟨fun | 6 => 104 | 8 => 143 | 9 => 142 | 19 => 178 | 20 => 153 | 21 => 169 | 22 => 170 | 23 => 171 | 24 => 172 | 25 => 173 | 26 => 174 | 27 => 175 | 28 => 176 | 29 => 177 | 36 => 189 | 31 => 190 | 32 => 191 | 37 => 192 | 38 => 193 | 39 => 194 | 41 => 200 | n => n, fun | 27 => 28 | 29 => 9 | 3 => 3 | 32 => 34 | 26 => 28 | 0 => 0 | 44 => 156 | 46 => 50 | 4 => 4 | 36 => 204 | 35 => 203 | 41 => 62 | 5 => 5 | 9 => 9 | 53 => 219 | 57 => 223 | 63 => 232 | 64 => 233 | n => n, fun | n => n⟩
theorem Tryz.l76 : Go.Proofs.SlLaysM.n6 Tryz.prog Tryz.l76_ren := {
  mixed := by kernel_rfl
  f6 := ⟨Tryz.f104.name, by decide, Tryz.func104.trans (congrArg some (by kernel_rfl))⟩
  f8 := Tryz.func143.trans (congrArg some (by kernel_rfl))
  f9 := ⟨Tryz.f142.name, by decide, Tryz.func142.trans (congrArg some (by kernel_rfl))⟩
  f19 := Tryz.func178.trans (congrArg some (by kernel_rfl))
  f20 := Tryz.func153.trans (congrArg some (by kernel_rfl))
  f21 := ⟨Tryz.f169.name, by decide, Tryz.func169.trans (congrArg some (by kernel_rfl))⟩
  f22 := ⟨Tryz.f170.name, by decide, Tryz.func170.trans (congrArg some (by kernel_rfl))⟩
  f23 := ⟨Tryz.f171.name, by decide, Tryz.func171.trans (congrArg some (by kernel_rfl))⟩
  f24 := ⟨Tryz.f172.name, by decide, Tryz.func172.trans (congrArg some (by kernel_rfl))⟩
  f25 := ⟨Tryz.f173.name, by decide, Tryz.func173.trans (congrArg some (by kernel_rfl))⟩
  f26 := ⟨Tryz.f174.name, by decide, Tryz.func174.trans (congrArg some (by kernel_rfl))⟩
  f27 := ⟨Tryz.f175.name, by decide, Tryz.func175.trans (congrArg some (by kernel_rfl))⟩
  f28 := ⟨Tryz.f176.name, by decide, Tryz.func176.trans (congrArg some (by kernel_rfl))⟩
  f29 := ⟨Tryz.f177.name, by decide, Tryz.func177.trans (congrArg some (by kernel_rfl))⟩
  f31 := Tryz.func190.trans (congrArg some (by kernel_rfl))
  f32 := Tryz.func191.trans (congrArg some (by kernel_rfl))
  f36 := ⟨Tryz.f189.name, by decide, Tryz.func189.trans (congrArg some (by kernel_rfl))⟩
  f37 := ⟨Tryz.f192.name, by decide, Tryz.func192.trans (congrArg some (by kernel_rfl))⟩
  f38 := ⟨Tryz.f193.name, by decide, Tryz.func193.trans (congrArg some (by kernel_rfl))⟩
  f39 := ⟨Tryz.f194.name, by decide, Tryz.func194.trans (congrArg some (by kernel_rfl))⟩
  f41 := ⟨Tryz.f200.name, by decide, Tryz.func200.trans (congrArg some (by kernel_rfl))⟩
  t0 := Tryz.underlying0
  a0 := Tryz.isAgg0
  z0 := Tryz.sizeOf0
  v0 := Tryz.zeroValue0
  t3 := Tryz.underlying3
  a3 := Tryz.isAgg3
  z3 := Tryz.sizeOf3
  v3 := Tryz.zeroValue3
  t4 := Tryz.underlying4
  a4 := Tryz.isAgg4
  z4 := Tryz.sizeOf4
  v4 := Tryz.zeroValue4
  t5 := Tryz.underlying5
  a5 := Tryz.isAgg5
  z5 := Tryz.sizeOf5
  v5 := Tryz.zeroValue5
  t9 := Tryz.underlying9
  a9 := Tryz.isAgg9
  z9 := Tryz.sizeOf9
  v9 := Tryz.zeroValue9
  t26 := Tryz.underlying28
  a26 := Tryz.isAgg28
  z26 := Tryz.sizeOf28
  v26 := Tryz.zeroValue28
  t27 := Tryz.underlying28
  a27 := Tryz.isAgg28
  z27 := Tryz.sizeOf28
  v27 := Tryz.zeroValue28
  t29 := Tryz.underlying9
  a29 := Tryz.isAgg9
  z29 := Tryz.sizeOf9
  v29 := Tryz.zeroValue9
  t32 := Tryz.underlying34
  a32 := Tryz.isAgg34
  z32 := Tryz.sizeOf34
  v32 := Tryz.zeroValue34
  t35 := Tryz.underlying203
  a35 := Tryz.isAgg203
  z35 := Tryz.sizeOf203
  v35 := Tryz.zeroValue203
  t36 := Tryz.underlying204
  a36 := Tryz.isAgg204
  z36 := Tryz.sizeOf204
  v36 := Tryz.zeroValue204
  t41 := Tryz.underlying62
  a41 := Tryz.isAgg62
  z41 := Tryz.sizeOf62
  v41 := Tryz.zeroValue62
  t44 := Tryz.underlying156
  a44 := Tryz.isAgg156
  z44 := Tryz.sizeOf156
  v44 := Tryz.zeroValue156
  t46 := Tryz.underlying50
  a46 := Tryz.isAgg50
  z46 := Tryz.sizeOf50
  v46 := Tryz.zeroValue50
  t53 := Tryz.underlying219
  a53 := Tryz.isAgg219
  z53 := Tryz.sizeOf219
  v53 := Tryz.zeroValue219
  t57 := Tryz.underlying223
  a57 := Tryz.isAgg223
  z57 := Tryz.sizeOf223
  v57 := Tryz.zeroValue223
  t63 := Tryz.underlying232
  a63 := Tryz.isAgg232
  z63 := Tryz.sizeOf232
  v63 := Tryz.zeroValue232
  t64 := Tryz.underlying233
  a64 := Tryz.isAgg233
  z64 := Tryz.sizeOf233
  v64 := Tryz.zeroValue233 }
def Tryz.l77_ren : Go.Shelf.Ren := ⟨fun | 43 => 105 | n => n, fun | 22 => 28 | 23 => 9 | 3 => 3 | 4 => 4 | 0 => 0 | n => n, fun | n => n⟩
theorem Tryz.l77 : Go.Proofs.SlLaysE.n43 Tryz.prog Tryz.l77_ren := {
  mixed := by kernel_rfl
  f43 := ⟨Tryz.f105.name, by decide, Tryz.func105.trans (congrArg some (by kernel_rfl))⟩
  t0 := Tryz.underlying0
  a0 := Tryz.isAgg0
  z0 := Tryz.sizeOf0
  v0 := Tryz.zeroValue0
  t3 := Tryz.underlying3
  a3 := Tryz.isAgg3
  z3 := Tryz.sizeOf3
  v3 := Tryz.zeroValue3
  t4 := Tryz.underlying4
  a4 := Tryz.isAgg4
  z4 := Tryz.sizeOf4
  v4 := Tryz.zeroValue4
  t22 := Tryz.underlying28
  a22 := Tryz.isAgg28
  z22 := Tryz.sizeOf28
  v22 := Tryz.zeroValue28
  a23 := Tryz.isAgg9
  z23 := Tryz.sizeOf9 }
end Go.Proofs

/- Sets: orset.Values. -/
namespace Go.Proofs.YtgpdpalhkkjmiaaGreatDoor
set_option linter.unusedVariables false
set_option linter.unusedSimpArgs false
open Go.RowKit Go.Lib Go.Tt Go.Shelf
/-- Texts by their bytes. -/
def sortB (l : List ByteArray) : List ByteArray := ((l.map (·.data.toList)).mergeSort fun x y => decide (x ≤ y)).map fun b => ⟨b.toArray⟩
theorem sortB_len (l : List ByteArray) : (sortB l).length = l.length := by simp [sortB]
theorem flat_str (l : List ByteArray) : eStr.flat l = l.map Value.string := by
  induction l with
  | nil => rfl
  | cons x l ih => rw [eStr.flat_cons, ih]; rfl
theorem enc_str (l : List (List UInt8)) : l.map encStr = eStr.flat (l.map fun b => (⟨b.toArray⟩ : ByteArray)) := by
  rw [flat_str, List.map_map]
  rfl
theorem enc_of (l : List ByteArray) : (l.map (·.data.toList)).map encStr = eStr.flat l := by rw [flat_str]; exact map_encStr l
theorem sort_ok {w : World} {F : Nat → Prop} {a : Option Addr} {n c : Nat} {l : List ByteArray} (h : Ow w F 9 eStr (.slice a n c) l) (hb : n * 16 ≤ 140737488355328) :
    Calls Tryz.prog 104 #[.slice a n c] w fun e w' => e = .returned (.tuple #[]) ∧ Ow w' F 9 eStr (.slice a n c) (sortB l) ∧ Frm F w w' := by
  rcases Nat.eq_zero_or_pos n with h0 | h0
  · subst h0
    have hl : l = [] := List.eq_nil_of_length_eq_zero h.cap.1.symm
    subst hl
    refine (AnyM.slices_Sort_string_none Tryz.l76 a c w).mono ?_
    rintro e w' ⟨rfl, rfl⟩
    exact ⟨rfl, by rw [show sortB [] = [] by simp [sortB]]; exact h, Frm.refl _ _⟩
  · obtain ⟨g, row, rfl, hB, hF, hn, hnc, hcm, hrs, htk⟩ := h.cases h0
    have htk' : row.toList.take (l.map (·.data.toList)).length = (l.map (·.data.toList)).map encStr := by
      rw [enc_of, List.length_map]
      rw [show l.length = l.length * eStr.k from (Nat.mul_one _).symm]
      exact htk
    have hc := AnyM.slices_Sort_string Tryz.l76 g 0 c (l.map (·.data.toList)) w (holds_of_block hB htk') (lt_of_block hB) (by rw [List.length_map]; omega)
    rw [List.length_map, ← hn] at hc
    refine hc.mono ?_
    rintro e w' ⟨rfl, m, os, rfl⟩
    have hl : ((l.map (·.data.toList)).mergeSort fun x y => decide (x ≤ y)).length = (l.map (·.data.toList)).length := by simp
    have o := ownsRow_sorted (base := 0) (n := m) (os := os) (cap := c) hl (Nat.zero_le _) hB (by rw [List.length_map]; omega) hcm hrs
    rw [enc_str, List.length_map, ← hn] at o
    refine ⟨rfl, .inr ⟨?_, fun g' hg' => by obtain rfl := Option.some.inj hg'; exact hF⟩, (Frm.of_grown (grownBy_sorted _)).mono fun k _ e => by obtain rfl := Option.some.inj e; exact hF⟩
    rw [sortB_len, ← hn]
    exact o
theorem str_dec (x y : ByteArray) : (x.toList == y.toList) = decide (x = y) := by
  cases h : x.toList == y.toList with
  | true => rw [decide_eq_true (str_eq h)]
  | false => rw [decide_eq_false (str_ne h)]
theorem eqlStr (T : TypeId) : EqlAt Tryz.prog T Value.string (fun x y => decide (x = y)) := ⟨fun x y w => by rw [(EqlAt.string Tryz.prog T).1 x y w]; exact congrArg (fun b => Result.ok (Value.bool b) w) (str_dec x y), .string Tryz.prog T⟩
theorem neqStr (T : TypeId) : NeqAt Tryz.prog T Value.string (fun x y => decide (x = y)) := ⟨fun x y w => by rw [(NeqAt.string Tryz.prog T).1 x y w]; exact congrArg (fun b => Result.ok (Value.bool !b) w) (str_dec x y), .string Tryz.prog T⟩
theorem compact_short (l : List ByteArray) (h : l.length < 2) : Lib.compact l = l := Lib.compact_all l fun j hj => Lib.keeps_lt_one _ j (by omega)
set_option maxRecDepth 100000 in
theorem compact_ok {w : World} {F : Nat → Prop} {a : Option Addr} {n c : Nat} {l : List ByteArray} (h : Ow w F 9 eStr (.slice a n c) l) (hb : n * 16 ≤ 140737488355328) :
    Calls Tryz.prog 105 #[.slice a n c] w fun e w' => ∃ n', e = .returned (.slice a n' c) ∧ Ow w' F 9 eStr (.slice a n' c) (Lib.compact l) ∧ Frm F w w' := by
  obtain ⟨hn, hnc⟩ := h.cap
  rcases Nat.lt_or_ge n 2 with h2 | h2
  · rw [compact_short l (by omega)]
    clear hn
    go_enter Tryz.func105, Tryz.ntmps105
    go_wp2
    go_ret
    exact ⟨n, rfl, h, Frm.refl _ _⟩
  · obtain ⟨g, row, rfl, hB, hF, -, -, hcm, hrs, htk⟩ := h.cases (by omega)
    have hown : w.ownsRow 0 9 1 (.slice (some ⟨g, 0, none⟩) n c) n (l.map Value.string) := by
      rcases h with ⟨a', e, -⟩ | ⟨h, -⟩
      · simp only [Value.slice.injEq] at e; omega
      · rw [flat_str, ← hn] at h; exact h
    obtain ⟨g', c', e, -, -, -, -, -, hH⟩ := holds_of_ownsRow hown (by intro e; cases e)
    simp only [Value.slice.injEq, Option.some.injEq, Addr.mk.injEq, and_true, true_and] at e
    obtain ⟨rfl, rfl⟩ := e
    have hsz : l.toArray.size = n := by rw [List.size_toArray]; exact hn.symm
    have hc := AnyE.slices_Compact Tryz.l77 Value.string (fun _ => rfl) (eqlStr _) (neqStr _) (⟨#[]⟩ : ByteArray) Tryz.zeroValue9 g 0 c l.toArray w hH (by omega) (by omega)
    rw [hsz] at hc
    have hlc : (Lib.compactUpTo l.toArray n).length ≤ n := by
      unfold Lib.compactUpTo
      rw [List.length_map]
      exact Nat.le_trans (List.length_filter_le _ _) (Nat.le_of_eq List.length_range)
    have hcp : Lib.compact l = Lib.compactUpTo l.toArray n := by unfold Lib.compact; rw [hn]
    refine hc.mono ?_
    rintro e w' ⟨rfl, q, rfl⟩
    have o := ownsRow_putRow (q := q) (k := (Lib.compactUpTo l.toArray n).length) (ys := Lib.compactUpTo l.toArray n ++ List.replicate (n - (Lib.compactUpTo l.toArray n).length) ⟨#[]⟩) hown (by rw [List.length_append, List.length_replicate]; omega) hlc
    rw [List.take_left' rfl, ← flat_str] at o
    refine ⟨_, rfl, ?_, ?_⟩
    · rw [hcp]
      exact .inr ⟨o, fun g' hg' => by obtain rfl := Option.some.inj hg'; exact hF⟩
    · refine ⟨rfl, rfl, rfl, by simp [Sort.putRow, Sort.mapBlock, Sort.ahead], fun k hk hkF => ?_⟩
      have hne : g ≠ k := fun e => hkF (e ▸ hF)
      simp [Sort.putRow, Sort.mapBlock, Sort.ahead, Array.getElem?_modify, hne]
/-- A set's values. -/
def valsOf (l : List En) : List ByteArray := Lib.compact (sortB (l.map fun e => e.2.2))
theorem map_step {l : List En} {i : Nat} {x : En} (h : i < l.length) (hx : Hid (x = l[i])) : (l.take (i + 1)).map (fun e => e.2.2) = (l.take i).map (fun e => e.2.2) ++ [x.2.2] := by
  rw [List.take_succ_eq_append_getElem h, ← hx.out, List.map_append]; rfl
set_option maxHeartbeats 1000000 in
set_option maxRecDepth 100000 in
theorem values_ok {w : World} {c : CellV} {ve vl vs : Value} (h : CellR w c ve vl vs) (hb : CellB c) (hk : c.kind = 2) :
    Calls Tryz.prog 73 #[cval c ve vl vs] w fun e w' => ∃ a' n' c', e = .returned (.tuple #[.slice a' n' c', .int .i64 0]) ∧ Ow w' (Nw No w w') 9 eStr (.slice a' n' c') (valsOf c.ents) ∧ Frm No w w' := by
  obtain ⟨he, hl, hs⟩ := h
  obtain ⟨ae, ce, rfl⟩ := he.sh
  obtain ⟨al, cl, rfl⟩ := hl.sh
  obtain ⟨at_, cs, rfl⟩ := hs.sh
  unfold cval
  rw [hk]
  have HE := Lib.hid he
  have hb1 : c.ents.length * 32 ≤ 140737488351232 := hb.e
  clear he hl hs hk hb
  go_enter Tryz.func73, Tryz.ntmps73
  go_wp2
  go_loopg [4, 13] (c.ents.length + 1) (fun g ov iv wr => ∃ (i : Nat) (ao : Option Addr) (no co : Nat), iv = .int .i64 i ∧ ov = .slice ao no co ∧ i ≤ c.ents.length ∧ g = c.ents.length - i + 1 ∧ Frm No w wr ∧ w.heap.size + 1 ≤ wr.heap.size ∧
    Ow wr (fun k => w.heap.size + 1 ≤ k) 9 eStr (.slice ao no co) ((c.ents.take i).map fun e => e.2.2))
  case atStart => exact ⟨0, none, 0, 0, rfl, rfl, Nat.zero_le _, by omega, (Frm.refl No w).al _, by simp, Ow.nil _ _ _ _ _⟩
  case round =>
    obtain ⟨i, ao, no, co, rfl, rfl, hi, hg, F, hsz, O⟩ := hrel
    have hG := Lib.hid hg
    clear hg
    have hno : no = i := by have := O.cap.1; rw [List.length_map, List.length_take] at this; omega
    subst hno
    have hln : ((c.ents.take no).map fun e => e.2.2).length = no := by rw [List.length_map, List.length_take]; omega
    obtain ⟨L, hL⟩ : ∃ L, Hid (L = (c.ents.take no).map fun e => e.2.2) := ⟨_, Lib.hid rfl⟩
    rw [← hL.out] at O hln
    have HLN := Lib.hid hln
    clear hln
    by_cases hlt : no < c.ents.length
    · obtain ⟨b, off, rfl, hbl, hc⟩ := (HE.out.no F).at hlt
      have e0 : wr.cell? ⟨b, off + no * 3, none⟩ = some (.int .i64 c.ents[no].1) := hc 0 _ rfl
      have e1 : wr.cell? ⟨b, off + no * 3 + 1, none⟩ = some (.int .i64 c.ents[no].2.1) := hc 1 _ rfl
      have e2 : wr.cell? ⟨b, off + no * 3 + 2, none⟩ = some (.string c.ents[no].2.2) := hc 2 _ rfl
      clear hc
      obtain ⟨x, hx⟩ : ∃ x, Hid (x = c.ents[no]) := ⟨_, Lib.hid rfl⟩
      rw [← hx.out] at e0 e1 e2
      go_wp2_with (at_builtin; refine wpList_ap _ rfl (.tmp 17) (.tmp 20) 28 28 rfl 9 _ 16 Tryz.underlying28 i_str rfl ((O.al _).al _) ((RdS.litg _ eStr x.2.2 _ (g := wr.heap.size + 1) (by simp)).src Tryz.underlying28) rfl rfl rfl ?c1 ?c2 ?_)
      case c1 => rw [HLN.out]; unfold maxLen; omega
      case c2 => rw [HLN.out]; omega
      intro a' c' w1 o1 f1
      have F1 : Frm No w w1 := ((F.al _).al _).then f1 fun k hk hh => by omega
      have z1 : w.heap.size + 1 ≤ w1.heap.size := by have := f1.size; simp at this; omega
      rw [HLN.out] at o1 ⊢
      go_wp2
      go_roundg (c.ents.length - (no + 1) + 1)
      case measure => have := hG.out; omega
      case rel =>
        exact ⟨no + 1, a', no + 1, c', by go_num, rfl, by omega, rfl, F1, z1, by rw [map_step hlt hx, ← hL.out]; exact o1.mono fun k _ hh => by rcases hh with hh | hh; exact hh; have := hh.1; simp at this; omega⟩
    · have hii : ¬ ((no : Int) < c.ents.length) := by omega
      have hs1 := sort_ok O (by omega)
      have htk : L = c.ents.map fun e => e.2.2 := by rw [hL.out, List.take_of_length_le (by omega)]
      rw [htk] at hs1
      clear HLN htk
      go_wp2_with (fail)
      refine hs1.mono ?_
      rintro e w1 ⟨rfl, o1, f1⟩
      clear hs1
      go_wp2_with (fail)
      have hc1 := compact_ok o1 (by omega)
      refine hc1.mono ?_
      rintro e w2 ⟨n2, rfl, o2, f2⟩
      clear hc1
      go_wp2
      go_ret2
      exact ⟨ao, n2, co, rfl, o2.fin (by omega), (F.then f1 fun k hk hh => by omega).then f2 fun k hk hh => by omega⟩
set_option maxRecDepth 100000 in
theorem values_bad {w : World} {c : CellV} {ve vl vs : Value} (h : CellR w c ve vl vs) (hk : c.kind ≠ 2) :
    Calls Tryz.prog 73 #[cval c ve vl vs] w fun e w' => e = .returned (.tuple #[.slice none 0 0, .int .i64 900]) ∧ Frm No w w' := by
  unfold cval
  go_enter Tryz.func73, Tryz.ntmps73
  go_wp2
  go_ret2
  exact ⟨rfl, (Frm.refl No w).al _⟩
set_option maxRecDepth 100000 in
theorem dots_bad {w : World} {c : CellV} {ve vl vs : Value} (h : CellR w c ve vl vs) (hk : c.kind ≠ 2) (v : ByteArray) :
    Calls Tryz.prog 70 #[cval c ve vl vs, .string v] w fun e w' => e = .returned (.tuple #[.slice none 0 0, .int .i64 900]) ∧ Frm No w w' := by
  unfold cval
  go_enter Tryz.func70, Tryz.ntmps70
  go_wp2
  go_ret2
  exact ⟨rfl, (Frm.refl No w).al _⟩
set_option maxRecDepth 100000 in
theorem drop_bad {w : World} {c : CellV} {ve vl vs : Value} (h : CellR w c ve vl vs) (hk : c.kind ≠ 2) (a : Option Addr) (n m : Nat) :
    Calls Tryz.prog 71 #[cval c ve vl vs, .slice a n m] w fun e w' => e = .returned (.tuple #[zval, .int .i64 900]) ∧ Frm No w w' := by
  obtain ⟨ae, ce, rfl⟩ := h.e.sh
  obtain ⟨al, cl, rfl⟩ := h.l.sh
  obtain ⟨at_, cs, rfl⟩ := h.s.sh
  unfold cval
  have C0 : (((w.alloc (.cells #[.int .i64 c.kind, .bool c.set, .int .i64 c.st.1, .int .i64 c.st.2, .string c.value, .int .i64 c.num.1, .int .i64 c.num.2, .slice ae c.ents.length ce, .slice al c.elems.length cl, .slice at_ c.seen.length cs] 75)).alloc (.cells #[.slice a n m] 76)).alloc (.cells zlist.toArray 75)).heap[w.heap.size + 2]? = some (.cells zlist.toArray 75 (0, 0)) := al_at (by simp)
  have F0 : Frm No w (((w.alloc (.cells #[.int .i64 c.kind, .bool c.set, .int .i64 c.st.1, .int .i64 c.st.2, .string c.value, .int .i64 c.num.1, .int .i64 c.num.2, .slice ae c.ents.length ce, .slice al c.elems.length cl, .slice at_ c.seen.length cs] 75)).alloc (.cells #[.slice a n m] 76)).alloc (.cells zlist.toArray 75)) := (((Frm.refl No w).al _).al _).al _
  clear h
  go_enter Tryz.func71, Tryz.ntmps71
  go_wp2_with (refine wpList_sto _ rfl (.tmp 4) (.tmp 9) 75 rfl C0 (by kernel_rfl) (by rfl) zone rfl rfl ?_)
  intro w7 C7 f7 z7
  obtain ⟨t0, t1, t2, t3, t4, t5, t6, t7, t8, t9⟩ := obj10 C7
  go_wp2
  refine bodyPost_ret (v := .tuple #[zval, .int .i64 900]) (by simp [results, Tryz.results71, go_sem, zval, *]) rfl ?_
  exact ⟨rfl, F0.then f7 fun k hk e => by omega⟩
end Go.Proofs.YtgpdpalhkkjmiaaGreatDoor

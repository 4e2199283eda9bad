/- Merged: Lww. -/
import Derived.Test.YtofikfkgiblblaaGreatDoorQ29
import Derived.Test.YtofikfkgiblblaaGreatDoorQ34
import Derived.Test.YtofikfkgiblblaaGreatDoorQ35
/- Layer 7: lww.Set. -/
namespace Go.Proofs.YtofikfkgiblblaaGreatDoor
set_option linter.unusedVariables false
set_option linter.unusedSimpArgs false
set_option linter.unusedVariables false
set_option linter.unusedSimpArgs false
open Go.RowKit Go.Lib Go.Tt Go.Shelf
/-- What Set gives, of a last value. -/
def setF (c : CellV) (s : Dt) (v : ByteArray) : CellV × Int := if c.set = false ∨ dotLess c.st s = true then ({ c with set := true, st := s, value := v }, 0) else (c, 0)
set_option maxHeartbeats 4000000 in
set_option maxRecDepth 100000 in
theorem lwwSet_ok {w : World} {c : CellV} {ve vl vs : Value} (h : CellR w c ve vl vs) (hb : CellB c) (hk : c.kind = 0) {s : Dt} (hs0 : timeMay s.1 = true) (hs1 : 0 ≤ s.2 ∧ s.2 < 16) {v : ByteArray} (hv : v.size ≤ 256) :
    Calls Tryz.prog 66 #[cval c ve vl vs, .agg #[.int .i64 s.1, .int .i64 s.2], .string v] w (CP (setF c s v).1 (setF c s v).2 w) := by
  obtain ⟨he, hl, hs⟩ := h
  have HR := Lib.hid (⟨he, hl, hs⟩ : CellR w c ve vl vs)
  obtain ⟨ae, ce, rfl⟩ := he.sh
  obtain ⟨al, cl, rfl⟩ := hl.sh
  obtain ⟨at_, cs, rfl⟩ := hs.sh
  have hcv : ∀ e l s, cval c e l s = .agg #[.int .i64 0, .bool c.set, .int .i64 c.st.1, .int .i64 c.st.2, .string c.value, .int .i64 c.num.1, .int .i64 c.num.2, e, l, s] := by intro e l s; unfold cval; rw [hk]
  rw [hcv]
  have HV := Lib.hid hcv
  have HK := Lib.hid hk
  have HB := Lib.hid hb
  clear he hl hs hb hk hcv
  have HT := Lib.hid (fun W => time_ok s.1 W)
  rw [hs0] at HT
  have HL := Lib.hid (fun W => lwwValue_ok v W (by omega))
  rw [decide_eq_true hv] at HL
  obtain ⟨hs1, hs2⟩ := hs1
  clear hs0
  have B0 : (((w.alloc (.cells #[.int .i64 0, .bool c.set, .int .i64 c.st.1, .int .i64 c.st.2, .string c.value, .int .i64 c.num.1, .int .i64 c.num.2, .slice ae c.ents.length ce, .slice al c.elems.length cl, .slice at_ c.seen.length cs] 30)).alloc (.cells #[.int .i64 s.1, .int .i64 s.2] 23)).alloc (.cells zlist.toArray 30)).heap[w.heap.size]? = some (.cells #[.int .i64 0, .bool c.set, .int .i64 c.st.1, .int .i64 c.st.2, .string c.value, .int .i64 c.num.1, .int .i64 c.num.2, .slice ae c.ents.length ce, .slice al c.elems.length cl, .slice at_ c.seen.length cs] 30 (0, 0)) := al_old (al_old (heap_alloc_new w _))
  have D0 : (((w.alloc (.cells #[.int .i64 0, .bool c.set, .int .i64 c.st.1, .int .i64 c.st.2, .string c.value, .int .i64 c.num.1, .int .i64 c.num.2, .slice ae c.ents.length ce, .slice al c.elems.length cl, .slice at_ c.seen.length cs] 30)).alloc (.cells #[.int .i64 s.1, .int .i64 s.2] 23)).alloc (.cells zlist.toArray 30)).heap[w.heap.size + 1]? = some (.cells #[.int .i64 s.1, .int .i64 s.2] 23 (0, 0)) := al_old (al_at (by simp))
  have C0 : (((w.alloc (.cells #[.int .i64 0, .bool c.set, .int .i64 c.st.1, .int .i64 c.st.2, .string c.value, .int .i64 c.num.1, .int .i64 c.num.2, .slice ae c.ents.length ce, .slice al c.elems.length cl, .slice at_ c.seen.length cs] 30)).alloc (.cells #[.int .i64 s.1, .int .i64 s.2] 23)).alloc (.cells zlist.toArray 30)).heap[w.heap.size + 2]? = some (.cells zlist.toArray 30 (0, 0)) := al_at (by simp)
  have F0 : Frm No w (((w.alloc (.cells #[.int .i64 0, .bool c.set, .int .i64 c.st.1, .int .i64 c.st.2, .string c.value, .int .i64 c.num.1, .int .i64 c.num.2, .slice ae c.ents.length ce, .slice al c.elems.length cl, .slice at_ c.seen.length cs] 30)).alloc (.cells #[.int .i64 s.1, .int .i64 s.2] 23)).alloc (.cells zlist.toArray 30)) := (((Frm.refl No w).al _).al _).al _
  have hcp := lwwCopy_ok (HR.out.no F0) HB.out
  rw [HV.out] at hcp
  have HCP := Lib.hid hcp
  clear hcp
  have hA : Hid (setF c s v = if c.set = false ∨ dotLess c.st s = true then ({ c with set := true, st := s, value := v }, 0) else (c, 0)) := Lib.hid rfl
  go_enter Tryz.func66, Tryz.ntmps66
  go_wp2_with (fail)
  refine (HT.out _).mono ?_
  rintro e w' ⟨rfl, rfl⟩
  clear HT
  go_wp2_with (fail)
  refine (HL.out _).mono ?_
  rintro e w' ⟨rfl, rfl⟩
  clear HL
  go_wp2_with (fail)
  refine HCP.out.mono ?_
  rintro e w4 ⟨ve', vl', vs', rfl, o4, f4⟩
  obtain ⟨a4, c4, rfl⟩ := o4.e.sh
  obtain ⟨a5, c5, rfl⟩ := o4.l.sh
  obtain ⟨a6, c6, rfl⟩ := o4.s.sh
  rw [HV.out]
  have F4 := F0.trans f4
  have z4 : w.heap.size + 3 ≤ w4.heap.size := by have := f4.size; simpa using this
  have B4 := f4.obj B0 id
  have C4 := f4.obj C0 id
  have D4 := f4.obj D0 id
  have M : ∀ k, Nw No (((w.alloc (.cells #[.int .i64 0, .bool c.set, .int .i64 c.st.1, .int .i64 c.st.2, .string c.value, .int .i64 c.num.1, .int .i64 c.num.2, .slice ae c.ents.length ce, .slice al c.elems.length cl, .slice at_ c.seen.length cs] 30)).alloc (.cells #[.int .i64 s.1, .int .i64 s.2] 23)).alloc (.cells zlist.toArray 30)) w4 k → w.heap.size + 3 ≤ k := fun k h => by
    rcases h with h | h
    · exact h.elim
    · have := h.1; simp at this; omega
  replace o4 := o4.mono fun k _ h => M k h
  clear HCP M B0 C0 D0 F0 f4
  have hone : ∀ (s : Bool) (t1 t2 : Int) (sv : ByteArray) (m1 m2 : Int) (v1 v2 v3 : Value), v1.oneCell' = true → v2.oneCell' = true → v3.oneCell' = true → ∀ u ∈ [Value.int .i64 0, .bool s, .int .i64 t1, .int .i64 t2, .string sv, .int .i64 m1, .int .i64 m2, v1, v2, v3], u.oneCell' = true := by
    intro s t1 t2 sv m1 m2 v1 v2 v3 h1 h2 h3 u hu
    simp only [List.mem_cons, List.not_mem_nil, or_false] at hu
    rcases hu with rfl | rfl | rfl | rfl | rfl | rfl | rfl | rfl | rfl | rfl <;> first | rfl | assumption
  go_wp2_with (refine wpList_sto _ rfl (.tmp 3) (.tmp 34) 30 rfl B4 (by kernel_rfl) (by rfl) (hone c.set c.st.1 c.st.2 c.value c.num.1 c.num.2 (.slice a4 c.ents.length c4) (.slice a5 c.elems.length c5) (.slice a6 c.seen.length c6) rfl rfl rfl) rfl rfl ?_)
  intro w5 B5 f5 z5
  have C5 := f5.obj C4 (by omega)
  have D5 := f5.obj D4 (by omega)
  have G5 : Frm (fun k => k < w.heap.size + 3) w4 w5 := f5.mono fun k _ e => by omega
  have l5 := o4.e.frm G5 fun k h e => by omega
  have e5 := o4.l.frm G5 fun k h e => by omega
  have s5 := o4.s.frm G5 fun k h e => by omega
  have z3 : w.heap.size ≤ w.heap.size + 3 := by omega
  obtain ⟨q0, q1, q2, q3, q4, q5, q6, q7, q8, q9⟩ := obj10 B5
  have r3 := obj_frz B5
  have n5 : w.heap.size < w5.heap.size := lt_of_block B5
  have n51 : w.heap.size + 1 < w5.heap.size := lt_of_block D5
  have n52 : w.heap.size + 2 < w5.heap.size := lt_of_block C5
  have d0 : w5.cell? ⟨w.heap.size + 1, 0, none⟩ = some (.int .i64 s.1) := obj_cell D5 0
  have d1 : w5.cell? ⟨w.heap.size + 1, 1, none⟩ = some (.int .i64 s.2) := obj_cell D5 1
  have HLS := Lib.hid (fun W => stLess_ok c.st s W)
  obtain ⟨S, hS⟩ : ∃ S, Hid (S = c.set) := ⟨_, Lib.hid rfl⟩
  rw [← hS.out] at q1 hA
  cases S with
  | false =>
    have hv : Hid (setF c s v = ({ c with set := true, st := s, value := v }, 0)) := Lib.hid (by rw [hA.out, if_pos (.inl rfl)])
    
    go_wp2_with (fail)
    refine wp_region_plan [([0, 1, 2, 3], [0]), ([4, 5, 6, 7], [])] 50 (by kernel_rfl) (by kernel_rfl) (by simp) ?_
    intro N hN
    simp only [wpSegs, List.map_cons, List.map_nil, List.getD_cons_zero, List.getD_cons_succ]
    obtain ⟨w6, hw6⟩ : ∃ w6, Hid (w6 = w5.drew) := ⟨_, Lib.hid rfl⟩
    rw [← hw6.out]
    have B6 : w6.heap[w.heap.size]? = some (.cells #[.int .i64 0, .bool c.set, .int .i64 c.st.1, .int .i64 c.st.2, .string c.value, .int .i64 c.num.1, .int .i64 c.num.2, .slice a4 c.ents.length c4, .slice a5 c.elems.length c5, .slice a6 c.seen.length c6] 30 (0, 0)) := by rw [hw6.out]; exact B5
    have D6 : w6.heap[w.heap.size + 1]? = some (.cells #[.int .i64 s.1, .int .i64 s.2] 23 (0, 0)) := by rw [hw6.out]; exact D5
    have F6 : Frm (fun k => k = w.heap.size) w5 w6 := by rw [hw6.out]; exact (Frm.refl _ w5).dr 1
    clear q0 q1 q2 q3 q4 q5 q6 q7 q8 q9 r3 d0 d1 n5 n51 n52
    have d0 : w6.cell? ⟨w.heap.size + 1, 0, none⟩ = some (.int .i64 s.1) := obj_cell D6 0
    have d1 : w6.cell? ⟨w.heap.size + 1, 1, none⟩ = some (.int .i64 s.2) := obj_cell D6 1
    have n6 := lt_of_block B6
    have n61 := lt_of_block D6
    go_wp2_with (refine wpList_stoC _ rfl (.tmp 46) (.const (.bool true)) 4 rfl B6 (vs := [.bool true]) rfl (by kernel_rfl) (by show 1 + 1 ≤ 10; omega) (by intro u hu; simp at hu; subst hu; rfl) rfl rfl #[.int .i64 0, .bool true, .int .i64 c.st.1, .int .i64 c.st.2, .string c.value, .int .i64 c.num.1, .int .i64 c.num.2, .slice a4 c.ents.length c4, .slice a5 c.elems.length c5, .slice a6 c.seen.length c6] rfl ?_)
    intro wa Ba fa za
    have Da := fa.obj D6 (by omega)
    clear d0 d1 n6 n61 B6 D6
    have na := lt_of_block Ba
    have na1 := lt_of_block Da
    have d0 : wa.cell? ⟨w.heap.size + 1, 0, none⟩ = some (.int .i64 s.1) := obj_cell Da 0
    have d1 : wa.cell? ⟨w.heap.size + 1, 1, none⟩ = some (.int .i64 s.2) := obj_cell Da 1
    go_wp2_with (fail)
    refine ⟨again_of rfl rfl ?_, ?_⟩
    · go_simp
    clear d0 d1 na1 Da
    go_wp2_with (refine wpList_stoC _ rfl (.tmp 47) (.tmp 44) 23 rfl Ba (vs := [.int .i64 s.1, .int .i64 s.2]) rfl (by kernel_rfl) (by show 2 + 2 ≤ 10; omega) (by intro u hu; simp at hu; rcases hu with rfl | rfl <;> rfl) rfl rfl #[.int .i64 0, .bool true, .int .i64 s.1, .int .i64 s.2, .string c.value, .int .i64 c.num.1, .int .i64 c.num.2, .slice a4 c.ents.length c4, .slice a5 c.elems.length c5, .slice a6 c.seen.length c6] rfl ?_)
    intro wb Bb fb zb
    have nb := lt_of_block Bb
    go_wp2_with (refine wpList_stoC _ rfl (.tmp 48) (.tmp 45) 9 rfl Bb (vs := [.string v]) rfl (by kernel_rfl) (by show 4 + 1 ≤ 10; omega) (by intro u hu; simp at hu; subst hu; rfl) rfl rfl #[.int .i64 0, .bool true, .int .i64 s.1, .int .i64 s.2, .string v, .int .i64 c.num.1, .int .i64 c.num.2, .slice a4 c.ents.length c4, .slice a5 c.elems.length c5, .slice a6 c.seen.length c6] rfl ?_)
    intro wc Bc fc zc
    have F3 : Frm (fun k => k = w.heap.size) w5 wc := ((F6.trans fa).trans fb).trans fc
    have Cc := F3.obj C5 (by omega)
    have nc := lt_of_block Bc
    have ncc := lt_of_block Cc
    obtain ⟨q0, q1, q2, q3, q4, q5, q6, q7, q8, q9⟩ := obj10 Bc
    clear fa fb fc Ba Bb
    go_wp2_with (refine wpList_sto _ rfl (.tmp 6) (.tmp 49) 30 rfl Cc (by kernel_rfl) (by rfl) (hone true s.1 s.2 v c.num.1 c.num.2 (.slice a4 c.ents.length c4) (.slice a5 c.elems.length c5) (.slice a6 c.seen.length c6) rfl rfl rfl) rfl rfl ?_)
    intro w7 C7 f7 z7
    obtain ⟨t0, t1, t2, t3, t4, t5, t6, t7, t8, t9⟩ := obj10 C7
    clear q0 q1 q2 q3 q4 q5 q6 q7 q8 q9
    go_wp2
    have G57 : Frm (fun k => w.heap.size ≤ k ∧ k < w.heap.size + 3) w5 w7 := (F3.mono fun k _ e => by omega).trans (f7.mono fun k _ e => by omega)
    refine bodyPost_ret (v := .tuple #[.agg #[.int .i64 0, .bool true, .int .i64 s.1, .int .i64 s.2, .string v, .int .i64 c.num.1, .int .i64 c.num.2, .slice a4 c.ents.length c4, .slice a5 c.elems.length c5, .slice a6 c.seen.length c6], .int .i64 0]) (by simp [results, Tryz.results66, go_sem, *]) rfl ?_
    have l7 := l5.frm G57 fun k h e => by omega
    have e7 := e5.frm G57 fun k h e => by omega
    have s7 := s5.frm G57 fun k h e => by omega
    rw [hv.out]
    refine ⟨_, _, _, ?_, ⟨l7.fin z3, e7.fin z3, s7.fin z3⟩, (F4.then f5 fun k hk h => by omega).then G57 fun k hk hh => by omega⟩
    unfold cval
    dsimp only
    rw [HK.out]


  | true =>
    rcases hd : dotLess c.st s with _ | _
    · have hv : Hid (setF c s v = (c, 0)) := Lib.hid (by rw [hA.out, if_neg (by rw [hd]; decide)])
      have HS1 : Hid (c.set = true) := Lib.hid hS.out.symm
      rw [hd] at HLS
      clear hd hA
      go_wp2_with (fail)
      refine (HLS.out _).mono ?_
      rintro e w6 ⟨rfl, f6⟩
      have B6 := f6.obj B5 id
      have C6 := f6.obj C5 id
      have n6 := lt_of_block B6
      have n62 := lt_of_block C6
      clear q0 q1 q2 q3 q4 q5 q6 q7 q8 q9 r3 d0 d1 n5 n51 n52 HLS
      obtain ⟨q0, q1, q2, q3, q4, q5, q6, q7, q8, q9⟩ := obj10 B6
      go_wp2_with (refine wpList_sto _ rfl (.tmp 6) (.tmp 49) 30 rfl C6 (by kernel_rfl) (by rfl) (hone c.set c.st.1 c.st.2 c.value c.num.1 c.num.2 (.slice a4 c.ents.length c4) (.slice a5 c.elems.length c5) (.slice a6 c.seen.length c6) rfl rfl rfl) rfl rfl ?_)
      intro w7 C7 f7 z7
      obtain ⟨t0, t1, t2, t3, t4, t5, t6, t7, t8, t9⟩ := obj10 C7
      clear q0 q1 q2 q3 q4 q5 q6 q7 q8 q9
      go_wp2
      have G57 : Frm (fun k => w.heap.size ≤ k ∧ k < w.heap.size + 3) w5 w7 := (f6.mono fun _ _ h => h.elim).trans (f7.mono fun k _ e => by omega)
      refine bodyPost_ret (v := .tuple #[.agg #[.int .i64 0, .bool c.set, .int .i64 c.st.1, .int .i64 c.st.2, .string c.value, .int .i64 c.num.1, .int .i64 c.num.2, .slice a4 c.ents.length c4, .slice a5 c.elems.length c5, .slice a6 c.seen.length c6], .int .i64 0]) (by simp [results, Tryz.results66, go_sem, *]) rfl ?_
      have l7 := l5.frm G57 fun k h e => by omega
      have e7 := e5.frm G57 fun k h e => by omega
      have s7 := s5.frm G57 fun k h e => by omega
      rw [hv.out]
      refine ⟨_, _, _, ?_, ⟨l7.fin z3, e7.fin z3, s7.fin z3⟩, (F4.then f5 fun k hk h => by omega).then G57 fun k hk hh => by omega⟩
      unfold cval
      dsimp only
      rw [HK.out]

    · have hv : Hid (setF c s v = ({ c with set := true, st := s, value := v }, 0)) := Lib.hid (by rw [hA.out, if_pos (.inr hd)])
      rw [hd] at HLS
      clear hd hA
      go_wp2_with (fail)
      refine (HLS.out _).mono ?_
      rintro e v5 ⟨rfl, f6⟩
      have Bv := f6.obj B5 id
      have Dv := f6.obj D5 id
      clear q0 q1 q2 q3 q4 q5 q6 q7 q8 q9 r3 d0 d1 n5 n51 n52 HLS

      go_wp2_with (fail)
      refine wp_region_plan [([0, 1, 2, 3], [0]), ([4, 5, 6, 7], [])] 50 (by kernel_rfl) (by kernel_rfl) (by simp) ?_
      intro N hN
      simp only [wpSegs, List.map_cons, List.map_nil, List.getD_cons_zero, List.getD_cons_succ]
      obtain ⟨w6, hw6⟩ : ∃ w6, Hid (w6 = v5.drew) := ⟨_, Lib.hid rfl⟩
      rw [← hw6.out]
      have B6 : w6.heap[w.heap.size]? = some (.cells #[.int .i64 0, .bool c.set, .int .i64 c.st.1, .int .i64 c.st.2, .string c.value, .int .i64 c.num.1, .int .i64 c.num.2, .slice a4 c.ents.length c4, .slice a5 c.elems.length c5, .slice a6 c.seen.length c6] 30 (0, 0)) := by rw [hw6.out]; exact Bv
      have D6 : w6.heap[w.heap.size + 1]? = some (.cells #[.int .i64 s.1, .int .i64 s.2] 23 (0, 0)) := by rw [hw6.out]; exact Dv
      have F6 : Frm (fun k => k = w.heap.size) w5 w6 := by rw [hw6.out]; exact (f6.mono fun _ _ h => h.elim).dr 1
      skip
      have d0 : w6.cell? ⟨w.heap.size + 1, 0, none⟩ = some (.int .i64 s.1) := obj_cell D6 0
      have d1 : w6.cell? ⟨w.heap.size + 1, 1, none⟩ = some (.int .i64 s.2) := obj_cell D6 1
      have n6 := lt_of_block B6
      have n61 := lt_of_block D6
      go_wp2_with (refine wpList_stoC _ rfl (.tmp 46) (.const (.bool true)) 4 rfl B6 (vs := [.bool true]) rfl (by kernel_rfl) (by show 1 + 1 ≤ 10; omega) (by intro u hu; simp at hu; subst hu; rfl) rfl rfl #[.int .i64 0, .bool true, .int .i64 c.st.1, .int .i64 c.st.2, .string c.value, .int .i64 c.num.1, .int .i64 c.num.2, .slice a4 c.ents.length c4, .slice a5 c.elems.length c5, .slice a6 c.seen.length c6] rfl ?_)
      intro wa Ba fa za
      have Da := fa.obj D6 (by omega)
      clear d0 d1 n6 n61 B6 D6
      have na := lt_of_block Ba
      have na1 := lt_of_block Da
      have d0 : wa.cell? ⟨w.heap.size + 1, 0, none⟩ = some (.int .i64 s.1) := obj_cell Da 0
      have d1 : wa.cell? ⟨w.heap.size + 1, 1, none⟩ = some (.int .i64 s.2) := obj_cell Da 1
      go_wp2_with (fail)
      refine ⟨again_of rfl rfl ?_, ?_⟩
      · go_simp
      clear d0 d1 na1 Da
      go_wp2_with (refine wpList_stoC _ rfl (.tmp 47) (.tmp 44) 23 rfl Ba (vs := [.int .i64 s.1, .int .i64 s.2]) rfl (by kernel_rfl) (by show 2 + 2 ≤ 10; omega) (by intro u hu; simp at hu; rcases hu with rfl | rfl <;> rfl) rfl rfl #[.int .i64 0, .bool true, .int .i64 s.1, .int .i64 s.2, .string c.value, .int .i64 c.num.1, .int .i64 c.num.2, .slice a4 c.ents.length c4, .slice a5 c.elems.length c5, .slice a6 c.seen.length c6] rfl ?_)
      intro wb Bb fb zb
      have nb := lt_of_block Bb
      go_wp2_with (refine wpList_stoC _ rfl (.tmp 48) (.tmp 45) 9 rfl Bb (vs := [.string v]) rfl (by kernel_rfl) (by show 4 + 1 ≤ 10; omega) (by intro u hu; simp at hu; subst hu; rfl) rfl rfl #[.int .i64 0, .bool true, .int .i64 s.1, .int .i64 s.2, .string v, .int .i64 c.num.1, .int .i64 c.num.2, .slice a4 c.ents.length c4, .slice a5 c.elems.length c5, .slice a6 c.seen.length c6] rfl ?_)
      intro wc Bc fc zc
      have F3 : Frm (fun k => k = w.heap.size) w5 wc := ((F6.trans fa).trans fb).trans fc
      have Cc := F3.obj C5 (by omega)
      have nc := lt_of_block Bc
      have ncc := lt_of_block Cc
      obtain ⟨q0, q1, q2, q3, q4, q5, q6, q7, q8, q9⟩ := obj10 Bc
      clear fa fb fc Ba Bb
      go_wp2_with (refine wpList_sto _ rfl (.tmp 6) (.tmp 49) 30 rfl Cc (by kernel_rfl) (by rfl) (hone true s.1 s.2 v c.num.1 c.num.2 (.slice a4 c.ents.length c4) (.slice a5 c.elems.length c5) (.slice a6 c.seen.length c6) rfl rfl rfl) rfl rfl ?_)
      intro w7 C7 f7 z7
      obtain ⟨t0, t1, t2, t3, t4, t5, t6, t7, t8, t9⟩ := obj10 C7
      clear q0 q1 q2 q3 q4 q5 q6 q7 q8 q9
      go_wp2
      have G57 : Frm (fun k => w.heap.size ≤ k ∧ k < w.heap.size + 3) w5 w7 := (F3.mono fun k _ e => by omega).trans (f7.mono fun k _ e => by omega)
      refine bodyPost_ret (v := .tuple #[.agg #[.int .i64 0, .bool true, .int .i64 s.1, .int .i64 s.2, .string v, .int .i64 c.num.1, .int .i64 c.num.2, .slice a4 c.ents.length c4, .slice a5 c.elems.length c5, .slice a6 c.seen.length c6], .int .i64 0]) (by simp [results, Tryz.results66, go_sem, *]) rfl ?_
      have l7 := l5.frm G57 fun k h e => by omega
      have e7 := e5.frm G57 fun k h e => by omega
      have s7 := s5.frm G57 fun k h e => by omega
      rw [hv.out]
      refine ⟨_, _, _, ?_, ⟨l7.fin z3, e7.fin z3, s7.fin z3⟩, (F4.then f5 fun k hk h => by omega).then G57 fun k hk hh => by omega⟩
      unfold cval
      dsimp only
      rw [HK.out]


end Go.Proofs.YtofikfkgiblblaaGreatDoor

/- Merged: RefSet RefEnts RefEls RefMay0. -/
import Derived.StillTactics
import Derived.Test.YtofikfkgiblblaaGreatDoorQ30
import Derived.Test.YtofikfkgiblblaaGreatDoorQ31
import Derived.Test.YtofikfkgiblblaaGreatDoorQ32
import Derived.Test.YtofikfkgiblblaaGreatDoorQ35
import Derived.Test.YtofikfkgiblblaaGreatDoorQ36
import Derived.Test.YtofikfkgiblblaaGreatDoorQ37
import Derived.Test.YtofikfkgiblblaaGreatDoorZC0
import Derived.Test.YtofikfkgiblblaaGreatDoorZC1
set_option linter.unusedVariables false
set_option linter.unusedSimpArgs false
/- The reference's Set, Count, Erase, NewCell. -/
namespace Go.Proofs.YtofikfkgiblblaaGreatDoor
set_option linter.unusedVariables false
set_option linter.unusedSimpArgs false
open Go.RowKit Go.Lib Go.Tt Go.Shelf
set_option maxHeartbeats 2000000 in
set_option maxRecDepth 100000 in
theorem refSet_ok {w : World} {c : CellV} {ve vl vs : Value} (h : CellR w c ve vl vs) (hb : CellB c) (hk : c.kind = 0) {s : Dt} (hs0 : timeMay s.1 = true) (hs1 : 0 ≤ s.2 ∧ s.2 < 16) {v : ByteArray} (hv : v.size ≤ 256) :
    Calls Tryz.prog 77 #[cval c ve vl vs, .agg #[.int .i64 s.1, .int .i64 s.2], .string v] w (CP (setF c s v).1 (setF c s v).2 w) := by
  obtain ⟨he, hl, hs⟩ := h
  have HR := Lib.hid (⟨he, hl, hs⟩ : CellR w c ve vl vs)
  obtain ⟨ae, ce, rfl⟩ := he.sh
  obtain ⟨al, cl, rfl⟩ := hl.sh
  obtain ⟨at_, cs, rfl⟩ := hs.sh
  have hcv : cval c (.slice ae c.ents.length ce) (.slice al c.elems.length cl) (.slice at_ c.seen.length cs) = .agg #[.int .i64 0, .bool c.set, .int .i64 c.st.1, .int .i64 c.st.2, .string c.value, .int .i64 c.num.1, .int .i64 c.num.2, .slice ae c.ents.length ce, .slice al c.elems.length cl, .slice at_ c.seen.length cs] := by unfold cval; rw [hk]
  rw [hcv]
  have HV := Lib.hid hcv
  have HK := Lib.hid hk
  have HB := Lib.hid hb
  have F0 : Frm No w (((w.alloc (.cells #[.int .i64 0, .bool c.set, .int .i64 c.st.1, .int .i64 c.st.2, .string c.value, .int .i64 c.num.1, .int .i64 c.num.2, .slice ae c.ents.length ce, .slice al c.elems.length cl, .slice at_ c.seen.length cs] 30 (0, 0))).alloc (.cells #[.int .i64 s.1, .int .i64 s.2] 23 (0, 0))).alloc (.cells #[.int .i64 0, .bool false, .int .i64 0, .int .i64 0, .string ⟨#[]⟩, .int .i64 0, .int .i64 0, .slice none 0 0, .slice none 0 0, .slice none 0 0] 30 (0, 0))) := (((Frm.refl No w).al _).al _).al _
  have B0 : (((w.alloc (.cells #[.int .i64 0, .bool c.set, .int .i64 c.st.1, .int .i64 c.st.2, .string c.value, .int .i64 c.num.1, .int .i64 c.num.2, .slice ae c.ents.length ce, .slice al c.elems.length cl, .slice at_ c.seen.length cs] 30 (0, 0))).alloc (.cells #[.int .i64 s.1, .int .i64 s.2] 23 (0, 0))).alloc (.cells #[.int .i64 0, .bool false, .int .i64 0, .int .i64 0, .string ⟨#[]⟩, .int .i64 0, .int .i64 0, .slice none 0 0, .slice none 0 0, .slice none 0 0] 30 (0, 0))).heap[w.heap.size]? = some (.cells #[.int .i64 0, .bool c.set, .int .i64 c.st.1, .int .i64 c.st.2, .string c.value, .int .i64 c.num.1, .int .i64 c.num.2, .slice ae c.ents.length ce, .slice al c.elems.length cl, .slice at_ c.seen.length cs] 30 (0, 0)) := al_old (al_old (heap_alloc_new w _))
  have S0 : (((w.alloc (.cells #[.int .i64 0, .bool c.set, .int .i64 c.st.1, .int .i64 c.st.2, .string c.value, .int .i64 c.num.1, .int .i64 c.num.2, .slice ae c.ents.length ce, .slice al c.elems.length cl, .slice at_ c.seen.length cs] 30 (0, 0))).alloc (.cells #[.int .i64 s.1, .int .i64 s.2] 23 (0, 0))).alloc (.cells #[.int .i64 0, .bool false, .int .i64 0, .int .i64 0, .string ⟨#[]⟩, .int .i64 0, .int .i64 0, .slice none 0 0, .slice none 0 0, .slice none 0 0] 30 (0, 0))).heap[w.heap.size + 1]? = some (.cells #[.int .i64 s.1, .int .i64 s.2] 23 (0, 0)) := al_old (al_at (by simp))
  have C0 : (((w.alloc (.cells #[.int .i64 0, .bool c.set, .int .i64 c.st.1, .int .i64 c.st.2, .string c.value, .int .i64 c.num.1, .int .i64 c.num.2, .slice ae c.ents.length ce, .slice al c.elems.length cl, .slice at_ c.seen.length cs] 30 (0, 0))).alloc (.cells #[.int .i64 s.1, .int .i64 s.2] 23 (0, 0))).alloc (.cells #[.int .i64 0, .bool false, .int .i64 0, .int .i64 0, .string ⟨#[]⟩, .int .i64 0, .int .i64 0, .slice none 0 0, .slice none 0 0, .slice none 0 0] 30 (0, 0))).heap[w.heap.size + 1 + 1]? = some (.cells #[.int .i64 0, .bool false, .int .i64 0, .int .i64 0, .string ⟨#[]⟩, .int .i64 0, .int .i64 0, .slice none 0 0, .slice none 0 0, .slice none 0 0] 30 (0, 0)) := al_at (by simp)
  have hst : stMay s 16 = true := by have h1 := of_decide_eq_true hs0; exact decide_eq_true ⟨h1.1, h1.2, hs1.1, hs1.2⟩
  have HM := Lib.hid (fun W => stampMay_ok s 16 W)
  rw [hst] at HM
  have hv' : ¬ ((256 : Int) < v.size) := by omega
  clear hst hs0 hs1
  clear he hl hs hb hk hcv
  go_enter Tryz.func77, Tryz.ntmps77
  go_wp2_with (fail)
  revert F0 B0 S0 C0
  generalize (((w.alloc (.cells #[.int .i64 0, .bool c.set, .int .i64 c.st.1, .int .i64 c.st.2, .string c.value, .int .i64 c.num.1, .int .i64 c.num.2, .slice ae c.ents.length ce, .slice al c.elems.length cl, .slice at_ c.seen.length cs] 30 (0, 0))).alloc (.cells #[.int .i64 s.1, .int .i64 s.2] 23 (0, 0))).alloc (.cells #[.int .i64 0, .bool false, .int .i64 0, .int .i64 0, .string ⟨#[]⟩, .int .i64 0, .int .i64 0, .slice none 0 0, .slice none 0 0, .slice none 0 0] 30 (0, 0))) = X0
  intro F0 B0 S0 C0
  refine (HM.out _).mono ?_
  rintro e w1 ⟨rfl, f1⟩
  have F1 := F0.trans f1
  have B1 := f1.obj B0 id
  have S1 := f1.obj S0 id
  have C1 := f1.obj C0 id
  clear F0 B0 S0 C0 f1 HM
  obtain ⟨q0, q1, q2, q3, q4, q5, q6, q7, q8, q9⟩ := obj10 B1
  go_wp2_with (fail)
  have hcp := refCopy_ok (HR.out.no F1) HB.out
  rw [HV.out] at hcp
  have zC := lt_of_block C1
  refine hcp.mono ?_
  rintro e w8 ⟨ve', vl', vs', rfl, o8, f8⟩
  obtain ⟨a1, c1, rfl⟩ := o8.e.sh
  obtain ⟨a2, c2, rfl⟩ := o8.l.sh
  obtain ⟨a3, c3, rfl⟩ := o8.s.sh
  rw [show cval c (.slice a1 c.ents.length c1) (.slice a2 c.elems.length c2) (.slice a3 c.seen.length c3) = .agg #[.int .i64 0, .bool c.set, .int .i64 c.st.1, .int .i64 c.st.2, .string c.value, .int .i64 c.num.1, .int .i64 c.num.2, .slice a1 c.ents.length c1, .slice a2 c.elems.length c2, .slice a3 c.seen.length c3] by unfold cval; rw [HK.out]]
  have F8 := F1.trans f8
  have B8 := f8.obj B1 id
  have S8 := f8.obj S1 id
  have C8 := f8.obj C1 id
  have o8' := o8.mono (G := fun k => w.heap.size + 1 + 1 + 1 ≤ k) fun k hk hh => by rcases hh with hh | hh; exact hh.elim; have := hh.1; omega
  clear hcp f8 B1 S1 C1 o8 q0 q1 q2 q3 q4 q5 q6 q7 q8 q9
  go_wp2_with (refine wpList_sto _ rfl (.tmp 3) (.tmp 23) 30 rfl B8 (by kernel_rfl) (by rfl) (vs := [.int .i64 0, .bool c.set, .int .i64 c.st.1, .int .i64 c.st.2, .string c.value, .int .i64 c.num.1, .int .i64 c.num.2, .slice a1 c.ents.length c1, .slice a2 c.elems.length c2, .slice a3 c.seen.length c3]) (by intro u hu; simp only [List.mem_cons, List.not_mem_nil, or_false] at hu; rcases hu with rfl | rfl | rfl | rfl | rfl | rfl | rfl | rfl | rfl | rfl <;> rfl) rfl rfl ?_)
  intro w9 B9 f9 z9
  have S9 := f9.obj S8 (by omega)
  have C9 := f9.obj C8 (by omega)
  have g9 : Frm (fun k => w.heap.size ≤ k ∧ k < w.heap.size + 1 + 1 + 1) w8 w9 := f9.mono fun k _ hk => by omega
  clear B8 S8 C8 f9
  obtain ⟨q0, q1, q2, q3, q4, q5, q6, q7, q8, q9⟩ := obj10 B9
  have n9 := lt_of_block B9
  rcases hset : c.set with _ | _
  · rw [hset] at B9 q1
    have HX : Hid (setF c s v = ({ c with set := true, st := s, value := v }, 0)) := Lib.hid (if_pos (.inl hset))
    go_wp2_with (refine wpList_stoC _ rfl (.tmp 33) (.const (.bool true)) 4 rfl B9 (vs := [.bool true]) rfl (by kernel_rfl) (by show 1 + 1 ≤ 10; omega) (by intro u hu; simp at hu; subst hu; rfl) rfl rfl #[.int .i64 0, .bool true, .int .i64 c.st.1, .int .i64 c.st.2, .string c.value, .int .i64 c.num.1, .int .i64 c.num.2, .slice a1 c.ents.length c1, .slice a2 c.elems.length c2, .slice a3 c.seen.length c3] rfl ?_)
    intro w10 B10 f10 z10
    have S10 := f10.obj S9 (by omega)
    have C10 := f10.obj C9 (by omega)
    have g10 := g9.trans (f10.mono (G := fun k => w.heap.size ≤ k ∧ k < w.heap.size + 1 + 1 + 1) fun k _ hk => by omega)
    clear q0 q1 q2 q3 q4 q5 q6 q7 q8 q9 B9 S9 C9 f10 g9
    obtain ⟨q0, q1, q2, q3, q4, q5, q6, q7, q8, q9⟩ := obj10 B10
    have n10 := lt_of_block B10
    have e0 := obj_cell S10 0
    have e1 := obj_cell S10 1
    simp at e0 e1
    have m10 := lt_of_block S10
    go_wp2_with (refine wpList_stoC _ rfl (.tmp 35) (.tmp 34) 23 rfl B10 (vs := [.int .i64 s.1, .int .i64 s.2]) rfl (by kernel_rfl) (by show 2 + 2 ≤ 10; omega) (by intro u hu; simp at hu; rcases hu with rfl | rfl <;> rfl) rfl rfl #[.int .i64 0, .bool true, .int .i64 s.1, .int .i64 s.2, .string c.value, .int .i64 c.num.1, .int .i64 c.num.2, .slice a1 c.ents.length c1, .slice a2 c.elems.length c2, .slice a3 c.seen.length c3] rfl ?_)
    intro w11 B11 f11 z11
    have S11 := f11.obj S10 (by omega)
    have C11 := f11.obj C10 (by omega)
    have g11 := g10.trans (f11.mono (G := fun k => w.heap.size ≤ k ∧ k < w.heap.size + 1 + 1 + 1) fun k _ hk => by omega)
    clear e0 e1 q0 q1 q2 q3 q4 q5 q6 q7 q8 q9 B10 S10 C10 f11 g10
    obtain ⟨q0, q1, q2, q3, q4, q5, q6, q7, q8, q9⟩ := obj10 B11
    have n11 := lt_of_block B11
    go_wp2_with (refine wpList_stoC _ rfl (.tmp 37) (.tmp 36) 9 rfl B11 (vs := [.string v]) rfl (by kernel_rfl) (by show 4 + 1 ≤ 10; omega) (by intro u hu; simp at hu; subst hu; rfl) rfl rfl #[.int .i64 0, .bool true, .int .i64 s.1, .int .i64 s.2, .string v, .int .i64 c.num.1, .int .i64 c.num.2, .slice a1 c.ents.length c1, .slice a2 c.elems.length c2, .slice a3 c.seen.length c3] rfl ?_)
    intro w12 B12 f12 z12
    have S12 := f12.obj S11 (by omega)
    have C12 := f12.obj C11 (by omega)
    have g12 := g11.trans (f12.mono (G := fun k => w.heap.size ≤ k ∧ k < w.heap.size + 1 + 1 + 1) fun k _ hk => by omega)
    clear q0 q1 q2 q3 q4 q5 q6 q7 q8 q9 B11 S11 C11 f12 g11
    obtain ⟨q0, q1, q2, q3, q4, q5, q6, q7, q8, q9⟩ := obj10 B12
    have n12 := lt_of_block B12
    go_wp2_with (refine wpList_sto _ rfl (.tmp 6) (.tmp 38) 30 rfl C12 (by kernel_rfl) (by rfl) (vs := [.int .i64 0, .bool true, .int .i64 s.1, .int .i64 s.2, .string v, .int .i64 c.num.1, .int .i64 c.num.2, .slice a1 c.ents.length c1, .slice a2 c.elems.length c2, .slice a3 c.seen.length c3]) (by intro u hu; simp only [List.mem_cons, List.not_mem_nil, or_false] at hu; rcases hu with rfl | rfl | rfl | rfl | rfl | rfl | rfl | rfl | rfl | rfl <;> rfl) rfl rfl ?_)
    intro w20 C20 f20 z20
    have g20 := g12.trans (f20.mono (G := fun k => w.heap.size ≤ k ∧ k < w.heap.size + 1 + 1 + 1) fun k _ hk => by omega)
    clear q0 q1 q2 q3 q4 q5 q6 q7 q8 q9
    obtain ⟨q0, q1, q2, q3, q4, q5, q6, q7, q8, q9⟩ := obj10 C20
    go_wp2_with (fail)
    refine bodyPost_ret (v := .tuple #[.agg #[.int .i64 0, .bool true, .int .i64 s.1, .int .i64 s.2, .string v, .int .i64 c.num.1, .int .i64 c.num.2, .slice a1 c.ents.length c1, .slice a2 c.elems.length c2, .slice a3 c.seen.length c3], .int .i64 0]) (by simp [results, Tryz.results77, go_sem, *]) rfl ?_
    have hG2 : ∀ k, w.heap.size + 1 + 1 + 1 ≤ k → ¬ (w.heap.size ≤ k ∧ k < w.heap.size + 1 + 1 + 1) := fun k h => by omega
    exact ⟨_, _, _, by rw [HX.out]; unfold cval; dsimp only; rw [HK.out], by rw [HX.out]; exact ⟨(o8'.e.frm g20 hG2).fin (by omega), (o8'.l.frm g20 hG2).fin (by omega), (o8'.s.frm g20 hG2).fin (by omega)⟩, F8.then g20 fun k hk hh => by have := hh.1; omega⟩
  · rw [hset] at B9 q1
    have e0 := obj_cell S9 0
    have e1 := obj_cell S9 1
    simp at e0 e1
    have m9 := lt_of_block S9
    have HLs := refLess_ok c.st s w9
    rcases hls : dotLess c.st s with _ | _
    · rw [hls] at HLs
      have HX : Hid (setF c s v = (c, 0)) := Lib.hid (if_neg fun e => by rcases e with e | e; rw [hset] at e; cases e; rw [hls] at e; cases e)
      go_wp2_with (fail)
      refine HLs.mono ?_
      rintro e w9b ⟨rfl, f9b⟩
      clear HLs e0 e1 q0 q1 q2 q3 q4 q5 q6 q7 q8 q9
      replace B9 := f9b.obj B9 id
      replace S9 := f9b.obj S9 id
      replace C9 := f9b.obj C9 id
      replace g9 := g9.trans (f9b.mono (G := fun k => w.heap.size ≤ k ∧ k < w.heap.size + 1 + 1 + 1) fun _ _ h => h.elim)
      clear f9b n9 z9
      obtain ⟨q0, q1, q2, q3, q4, q5, q6, q7, q8, q9⟩ := obj10 B9
      have n9 := lt_of_block B9
      go_wp2_with (refine wpList_sto _ rfl (.tmp 6) (.tmp 38) 30 rfl C9 (by kernel_rfl) (by rfl) (vs := [.int .i64 0, .bool true, .int .i64 c.st.1, .int .i64 c.st.2, .string c.value, .int .i64 c.num.1, .int .i64 c.num.2, .slice a1 c.ents.length c1, .slice a2 c.elems.length c2, .slice a3 c.seen.length c3]) (by intro u hu; simp only [List.mem_cons, List.not_mem_nil, or_false] at hu; rcases hu with rfl | rfl | rfl | rfl | rfl | rfl | rfl | rfl | rfl | rfl <;> rfl) rfl rfl ?_)
      intro w20 C20 f20 z20
      have g20 := g9.trans (f20.mono (G := fun k => w.heap.size ≤ k ∧ k < w.heap.size + 1 + 1 + 1) fun k _ hk => by omega)
      clear q0 q1 q2 q3 q4 q5 q6 q7 q8 q9
      obtain ⟨q0, q1, q2, q3, q4, q5, q6, q7, q8, q9⟩ := obj10 C20
      go_wp2_with (fail)
      refine bodyPost_ret (v := .tuple #[.agg #[.int .i64 0, .bool true, .int .i64 c.st.1, .int .i64 c.st.2, .string c.value, .int .i64 c.num.1, .int .i64 c.num.2, .slice a1 c.ents.length c1, .slice a2 c.elems.length c2, .slice a3 c.seen.length c3], .int .i64 0]) (by simp [results, Tryz.results77, go_sem, *]) rfl ?_
      have hG2 : ∀ k, w.heap.size + 1 + 1 + 1 ≤ k → ¬ (w.heap.size ≤ k ∧ k < w.heap.size + 1 + 1 + 1) := fun k h => by omega
      exact ⟨_, _, _, by rw [HX.out]; unfold cval; dsimp only; rw [HK.out, hset], by rw [HX.out]; exact ⟨(o8'.e.frm g20 hG2).fin (by omega), (o8'.l.frm g20 hG2).fin (by omega), (o8'.s.frm g20 hG2).fin (by omega)⟩, F8.then g20 fun k hk hh => by have := hh.1; omega⟩
    · rw [hls] at HLs
      have HX : Hid (setF c s v = ({ c with set := true, st := s, value := v }, 0)) := Lib.hid (if_pos (.inr hls))
      go_wp2_with (fail)
      refine HLs.mono ?_
      rintro e w9b ⟨rfl, f9b⟩
      clear HLs e0 e1 q0 q1 q2 q3 q4 q5 q6 q7 q8 q9
      replace B9 := f9b.obj B9 id
      replace S9 := f9b.obj S9 id
      replace C9 := f9b.obj C9 id
      replace g9 := g9.trans (f9b.mono (G := fun k => w.heap.size ≤ k ∧ k < w.heap.size + 1 + 1 + 1) fun _ _ h => h.elim)
      clear f9b n9 z9
      obtain ⟨q0, q1, q2, q3, q4, q5, q6, q7, q8, q9⟩ := obj10 B9
      have n9 := lt_of_block B9
      go_wp2_with (refine wpList_stoC _ rfl (.tmp 33) (.const (.bool true)) 4 rfl B9 (vs := [.bool true]) rfl (by kernel_rfl) (by show 1 + 1 ≤ 10; omega) (by intro u hu; simp at hu; subst hu; rfl) rfl rfl #[.int .i64 0, .bool true, .int .i64 c.st.1, .int .i64 c.st.2, .string c.value, .int .i64 c.num.1, .int .i64 c.num.2, .slice a1 c.ents.length c1, .slice a2 c.elems.length c2, .slice a3 c.seen.length c3] rfl ?_)
      intro w10 B10 f10 z10
      have S10 := f10.obj S9 (by omega)
      have C10 := f10.obj C9 (by omega)
      have g10 := g9.trans (f10.mono (G := fun k => w.heap.size ≤ k ∧ k < w.heap.size + 1 + 1 + 1) fun k _ hk => by omega)
      clear q0 q1 q2 q3 q4 q5 q6 q7 q8 q9 B9 S9 C9 f10 g9
      obtain ⟨q0, q1, q2, q3, q4, q5, q6, q7, q8, q9⟩ := obj10 B10
      have n10 := lt_of_block B10
      have e0 := obj_cell S10 0
      have e1 := obj_cell S10 1
      simp at e0 e1
      have m10 := lt_of_block S10
      go_wp2_with (refine wpList_stoC _ rfl (.tmp 35) (.tmp 34) 23 rfl B10 (vs := [.int .i64 s.1, .int .i64 s.2]) rfl (by kernel_rfl) (by show 2 + 2 ≤ 10; omega) (by intro u hu; simp at hu; rcases hu with rfl | rfl <;> rfl) rfl rfl #[.int .i64 0, .bool true, .int .i64 s.1, .int .i64 s.2, .string c.value, .int .i64 c.num.1, .int .i64 c.num.2, .slice a1 c.ents.length c1, .slice a2 c.elems.length c2, .slice a3 c.seen.length c3] rfl ?_)
      intro w11 B11 f11 z11
      have S11 := f11.obj S10 (by omega)
      have C11 := f11.obj C10 (by omega)
      have g11 := g10.trans (f11.mono (G := fun k => w.heap.size ≤ k ∧ k < w.heap.size + 1 + 1 + 1) fun k _ hk => by omega)
      clear e0 e1 q0 q1 q2 q3 q4 q5 q6 q7 q8 q9 B10 S10 C10 f11 g10
      obtain ⟨q0, q1, q2, q3, q4, q5, q6, q7, q8, q9⟩ := obj10 B11
      have n11 := lt_of_block B11
      go_wp2_with (refine wpList_stoC _ rfl (.tmp 37) (.tmp 36) 9 rfl B11 (vs := [.string v]) rfl (by kernel_rfl) (by show 4 + 1 ≤ 10; omega) (by intro u hu; simp at hu; subst hu; rfl) rfl rfl #[.int .i64 0, .bool true, .int .i64 s.1, .int .i64 s.2, .string v, .int .i64 c.num.1, .int .i64 c.num.2, .slice a1 c.ents.length c1, .slice a2 c.elems.length c2, .slice a3 c.seen.length c3] rfl ?_)
      intro w12 B12 f12 z12
      have S12 := f12.obj S11 (by omega)
      have C12 := f12.obj C11 (by omega)
      have g12 := g11.trans (f12.mono (G := fun k => w.heap.size ≤ k ∧ k < w.heap.size + 1 + 1 + 1) fun k _ hk => by omega)
      clear q0 q1 q2 q3 q4 q5 q6 q7 q8 q9 B11 S11 C11 f12 g11
      obtain ⟨q0, q1, q2, q3, q4, q5, q6, q7, q8, q9⟩ := obj10 B12
      have n12 := lt_of_block B12
      go_wp2_with (refine wpList_sto _ rfl (.tmp 6) (.tmp 38) 30 rfl C12 (by kernel_rfl) (by rfl) (vs := [.int .i64 0, .bool true, .int .i64 s.1, .int .i64 s.2, .string v, .int .i64 c.num.1, .int .i64 c.num.2, .slice a1 c.ents.length c1, .slice a2 c.elems.length c2, .slice a3 c.seen.length c3]) (by intro u hu; simp only [List.mem_cons, List.not_mem_nil, or_false] at hu; rcases hu with rfl | rfl | rfl | rfl | rfl | rfl | rfl | rfl | rfl | rfl <;> rfl) rfl rfl ?_)
      intro w20 C20 f20 z20
      have g20 := g12.trans (f20.mono (G := fun k => w.heap.size ≤ k ∧ k < w.heap.size + 1 + 1 + 1) fun k _ hk => by omega)
      clear q0 q1 q2 q3 q4 q5 q6 q7 q8 q9
      obtain ⟨q0, q1, q2, q3, q4, q5, q6, q7, q8, q9⟩ := obj10 C20
      go_wp2_with (fail)
      refine bodyPost_ret (v := .tuple #[.agg #[.int .i64 0, .bool true, .int .i64 s.1, .int .i64 s.2, .string v, .int .i64 c.num.1, .int .i64 c.num.2, .slice a1 c.ents.length c1, .slice a2 c.elems.length c2, .slice a3 c.seen.length c3], .int .i64 0]) (by simp [results, Tryz.results77, go_sem, *]) rfl ?_
      have hG2 : ∀ k, w.heap.size + 1 + 1 + 1 ≤ k → ¬ (w.heap.size ≤ k ∧ k < w.heap.size + 1 + 1 + 1) := fun k h => by omega
      exact ⟨_, _, _, by rw [HX.out]; unfold cval; dsimp only; rw [HK.out], by rw [HX.out]; exact ⟨(o8'.e.frm g20 hG2).fin (by omega), (o8'.l.frm g20 hG2).fin (by omega), (o8'.s.frm g20 hG2).fin (by omega)⟩, F8.then g20 fun k hk hh => by have := hh.1; omega⟩
set_option maxHeartbeats 2000000 in
set_option maxRecDepth 100000 in
theorem refCount_ok {w : World} {c : CellV} {ve vl vs : Value} (h : CellR w c ve vl vs) (hb : CellB c) (hk : c.kind = 1) (x : Int × Int) :
    Calls Tryz.prog 78 #[cval c ve vl vs, .agg #[.int .i64 x.1, .int .i64 x.2]] w (CP (addF c x).1 (addF c x).2 w) := by
  obtain ⟨he, hl, hs⟩ := h
  have HR := Lib.hid (⟨he, hl, hs⟩ : CellR w c ve vl vs)
  obtain ⟨ae, ce, rfl⟩ := he.sh
  obtain ⟨al, cl, rfl⟩ := hl.sh
  obtain ⟨at_, cs, rfl⟩ := hs.sh
  obtain ⟨R, hR⟩ : ∃ R, Hid (R = addPair c.num x) := ⟨_, Lib.hid rfl⟩
  have hcv : cval c (.slice ae c.ents.length ce) (.slice al c.elems.length cl) (.slice at_ c.seen.length cs) = .agg #[.int .i64 1, .bool c.set, .int .i64 c.st.1, .int .i64 c.st.2, .string c.value, .int .i64 c.num.1, .int .i64 c.num.2, .slice ae c.ents.length ce, .slice al c.elems.length cl, .slice at_ c.seen.length cs] := by unfold cval; rw [hk]
  rw [hcv]
  have HV := Lib.hid hcv
  have HK := Lib.hid hk
  have HB := Lib.hid hb
  have F0 : Frm No w (((w.alloc (.cells #[.int .i64 1, .bool c.set, .int .i64 c.st.1, .int .i64 c.st.2, .string c.value, .int .i64 c.num.1, .int .i64 c.num.2, .slice ae c.ents.length ce, .slice al c.elems.length cl, .slice at_ c.seen.length cs] 30 (0, 0))).alloc (.cells #[.int .i64 x.1, .int .i64 x.2] 25 (0, 0))).alloc (.cells #[.int .i64 0, .bool false, .int .i64 0, .int .i64 0, .string ⟨#[]⟩, .int .i64 0, .int .i64 0, .slice none 0 0, .slice none 0 0, .slice none 0 0] 30 (0, 0))) := (((Frm.refl No w).al _).al _).al _
  have B0 : (((w.alloc (.cells #[.int .i64 1, .bool c.set, .int .i64 c.st.1, .int .i64 c.st.2, .string c.value, .int .i64 c.num.1, .int .i64 c.num.2, .slice ae c.ents.length ce, .slice al c.elems.length cl, .slice at_ c.seen.length cs] 30 (0, 0))).alloc (.cells #[.int .i64 x.1, .int .i64 x.2] 25 (0, 0))).alloc (.cells #[.int .i64 0, .bool false, .int .i64 0, .int .i64 0, .string ⟨#[]⟩, .int .i64 0, .int .i64 0, .slice none 0 0, .slice none 0 0, .slice none 0 0] 30 (0, 0))).heap[w.heap.size]? = some (.cells #[.int .i64 1, .bool c.set, .int .i64 c.st.1, .int .i64 c.st.2, .string c.value, .int .i64 c.num.1, .int .i64 c.num.2, .slice ae c.ents.length ce, .slice al c.elems.length cl, .slice at_ c.seen.length cs] 30 (0, 0)) := al_old (al_old (heap_alloc_new w _))
  have S0 : (((w.alloc (.cells #[.int .i64 1, .bool c.set, .int .i64 c.st.1, .int .i64 c.st.2, .string c.value, .int .i64 c.num.1, .int .i64 c.num.2, .slice ae c.ents.length ce, .slice al c.elems.length cl, .slice at_ c.seen.length cs] 30 (0, 0))).alloc (.cells #[.int .i64 x.1, .int .i64 x.2] 25 (0, 0))).alloc (.cells #[.int .i64 0, .bool false, .int .i64 0, .int .i64 0, .string ⟨#[]⟩, .int .i64 0, .int .i64 0, .slice none 0 0, .slice none 0 0, .slice none 0 0] 30 (0, 0))).heap[w.heap.size + 1]? = some (.cells #[.int .i64 x.1, .int .i64 x.2] 25 (0, 0)) := al_old (al_at (by simp))
  have C0 : (((w.alloc (.cells #[.int .i64 1, .bool c.set, .int .i64 c.st.1, .int .i64 c.st.2, .string c.value, .int .i64 c.num.1, .int .i64 c.num.2, .slice ae c.ents.length ce, .slice al c.elems.length cl, .slice at_ c.seen.length cs] 30 (0, 0))).alloc (.cells #[.int .i64 x.1, .int .i64 x.2] 25 (0, 0))).alloc (.cells #[.int .i64 0, .bool false, .int .i64 0, .int .i64 0, .string ⟨#[]⟩, .int .i64 0, .int .i64 0, .slice none 0 0, .slice none 0 0, .slice none 0 0] 30 (0, 0))).heap[w.heap.size + 1 + 1]? = some (.cells #[.int .i64 0, .bool false, .int .i64 0, .int .i64 0, .string ⟨#[]⟩, .int .i64 0, .int .i64 0, .slice none 0 0, .slice none 0 0, .slice none 0 0] 30 (0, 0)) := al_at (by simp)
  have HA := Lib.hid (fun W => refAddPair_ok c.num x W)
  rw [← hR.out] at HA
  clear he hl hs hb hk hcv
  go_enter Tryz.func78, Tryz.ntmps78
  go_wp2_with (fail)
  revert F0 B0 S0 C0
  generalize (((w.alloc (.cells #[.int .i64 1, .bool c.set, .int .i64 c.st.1, .int .i64 c.st.2, .string c.value, .int .i64 c.num.1, .int .i64 c.num.2, .slice ae c.ents.length ce, .slice al c.elems.length cl, .slice at_ c.seen.length cs] 30 (0, 0))).alloc (.cells #[.int .i64 x.1, .int .i64 x.2] 25 (0, 0))).alloc (.cells #[.int .i64 0, .bool false, .int .i64 0, .int .i64 0, .string ⟨#[]⟩, .int .i64 0, .int .i64 0, .slice none 0 0, .slice none 0 0, .slice none 0 0] 30 (0, 0))) = X0
  intro F0 B0 S0 C0
  refine (HA.out _).mono ?_
  rintro e w0 ⟨rfl, f0⟩
  have m0 := f0.obj C0 id
  have l0 := lt_of_block m0
  have f1 := f0.al (.cells #[.int .i64 R.1.1, .int .i64 R.1.2] 25 (0, 0))
  have P1 := heap_alloc_new w0 (.cells #[.int .i64 R.1.1, .int .i64 R.1.2] 25 (0, 0))
  have F1 := F0.trans f1
  have B1 := f1.obj B0 id
  have S1 := f1.obj S0 id
  have C1 := f1.obj C0 id
  have hz0 : w.heap.size + 1 + 1 < w0.heap.size := l0
  clear F0 B0 S0 C0 f0 f1 HA m0
  obtain ⟨q0, q1, q2, q3, q4, q5, q6, q7, q8, q9⟩ := obj10 B1
  by_cases hE : R.2 = 0
  · have HX : Hid (addF c x = ({ c with num := R.1 }, 0)) := Lib.hid (by unfold addF; rw [← hR.out, if_pos hE])
    have hz3 : w.heap.size + 1 + 1 < w0.heap.size + 1 := by omega
    go_wp2_with (fail)
    have hcp := refCopy_ok (HR.out.no F1) HB.out
    rw [HV.out] at hcp
    have zC := lt_of_block C1
    refine hcp.mono ?_
    rintro e w8 ⟨ve', vl', vs', rfl, o8, f8⟩
    obtain ⟨a1, c1, rfl⟩ := o8.e.sh
    obtain ⟨a2, c2, rfl⟩ := o8.l.sh
    obtain ⟨a3, c3, rfl⟩ := o8.s.sh
    rw [show cval c (.slice a1 c.ents.length c1) (.slice a2 c.elems.length c2) (.slice a3 c.seen.length c3) = .agg #[.int .i64 1, .bool c.set, .int .i64 c.st.1, .int .i64 c.st.2, .string c.value, .int .i64 c.num.1, .int .i64 c.num.2, .slice a1 c.ents.length c1, .slice a2 c.elems.length c2, .slice a3 c.seen.length c3] by unfold cval; rw [HK.out]]
    have F8 := F1.trans f8
    have B8 := f8.obj B1 id
    have S8 := f8.obj S1 id
    have C8 := f8.obj C1 id
    have P8 := f8.obj P1 id
    have o8' := o8.mono (G := fun k => w.heap.size + 1 + 1 + 1 ≤ k) fun k hk hh => by rcases hh with hh | hh; exact hh.elim; have := hh.1; omega
    clear hcp f8 P1 B1 S1 C1 o8 q0 q1 q2 q3 q4 q5 q6 q7 q8 q9
    go_wp2_with (refine wpList_sto _ rfl (.tmp 2) (.tmp 24) 30 rfl B8 (by kernel_rfl) (by rfl) (vs := [.int .i64 1, .bool c.set, .int .i64 c.st.1, .int .i64 c.st.2, .string c.value, .int .i64 c.num.1, .int .i64 c.num.2, .slice a1 c.ents.length c1, .slice a2 c.elems.length c2, .slice a3 c.seen.length c3]) (by intro u hu; simp only [List.mem_cons, List.not_mem_nil, or_false] at hu; rcases hu with rfl | rfl | rfl | rfl | rfl | rfl | rfl | rfl | rfl | rfl <;> rfl) rfl rfl ?_)
    intro w9 B9 f9 z9
    have S9 := f9.obj S8 (by omega)
    have C9 := f9.obj C8 (by omega)
    have P9 := f9.obj P8 (by omega)
    have g9 : Frm (fun k => w.heap.size ≤ k ∧ k < w.heap.size + 1 + 1 + 1) w8 w9 := f9.mono fun k _ hk => by omega
    clear B8 S8 C8 P8 f9
    obtain ⟨q0, q1, q2, q3, q4, q5, q6, q7, q8, q9⟩ := obj10 B9
    have n9 := lt_of_block B9
    have e0 := obj_cell P9 0
    have e1 := obj_cell P9 1
    simp at e0 e1
    have m9 := lt_of_block P9
    go_wp2_with (refine wpList_stoC _ rfl (.tmp 26) (.tmp 25) 25 rfl B9 (vs := [.int .i64 R.1.1, .int .i64 R.1.2]) rfl (by kernel_rfl) (by show 5 + 2 ≤ 10; omega) (by intro u hu; simp at hu; rcases hu with rfl | rfl <;> rfl) rfl rfl #[.int .i64 1, .bool c.set, .int .i64 c.st.1, .int .i64 c.st.2, .string c.value, .int .i64 R.1.1, .int .i64 R.1.2, .slice a1 c.ents.length c1, .slice a2 c.elems.length c2, .slice a3 c.seen.length c3] rfl ?_)
    intro w10 B10 f10 z10
    have S10 := f10.obj S9 (by omega)
    have C10 := f10.obj C9 (by omega)
    have g10 := g9.trans (f10.mono (G := fun k => w.heap.size ≤ k ∧ k < w.heap.size + 1 + 1 + 1) fun k _ hk => by omega)
    clear e0 e1 q0 q1 q2 q3 q4 q5 q6 q7 q8 q9 B9 S9 C9 f10 g9
    obtain ⟨q0, q1, q2, q3, q4, q5, q6, q7, q8, q9⟩ := obj10 B10
    have n10 := lt_of_block B10
    go_wp2_with (refine wpList_sto _ rfl (.tmp 4) (.tmp 27) 30 rfl C10 (by kernel_rfl) (by rfl) (vs := [.int .i64 1, .bool c.set, .int .i64 c.st.1, .int .i64 c.st.2, .string c.value, .int .i64 R.1.1, .int .i64 R.1.2, .slice a1 c.ents.length c1, .slice a2 c.elems.length c2, .slice a3 c.seen.length c3]) (by intro u hu; simp only [List.mem_cons, List.not_mem_nil, or_false] at hu; rcases hu with rfl | rfl | rfl | rfl | rfl | rfl | rfl | rfl | rfl | rfl <;> rfl) rfl rfl ?_)
    intro w20 C20 f20 z20
    have g20 := g10.trans (f20.mono (G := fun k => w.heap.size ≤ k ∧ k < w.heap.size + 1 + 1 + 1) fun k _ hk => by omega)
    clear q0 q1 q2 q3 q4 q5 q6 q7 q8 q9
    obtain ⟨q0, q1, q2, q3, q4, q5, q6, q7, q8, q9⟩ := obj10 C20
    go_wp2_with (fail)
    refine bodyPost_ret (v := .tuple #[.agg #[.int .i64 1, .bool c.set, .int .i64 c.st.1, .int .i64 c.st.2, .string c.value, .int .i64 R.1.1, .int .i64 R.1.2, .slice a1 c.ents.length c1, .slice a2 c.elems.length c2, .slice a3 c.seen.length c3], .int .i64 0]) (by simp [results, Tryz.results78, go_sem, *]) rfl ?_
    have hG2 : ∀ k, w.heap.size + 1 + 1 + 1 ≤ k → ¬ (w.heap.size ≤ k ∧ k < w.heap.size + 1 + 1 + 1) := fun k h => by omega
    exact ⟨_, _, _, by rw [HX.out]; unfold cval; dsimp only; rw [HK.out], by rw [HX.out]; exact ⟨(o8'.e.frm g20 hG2).fin (by omega), (o8'.l.frm g20 hG2).fin (by omega), (o8'.s.frm g20 hG2).fin (by omega)⟩, F8.then g20 fun k hk hh => by have := hh.1; omega⟩
  · have HX : Hid (addF c x = (zeroC, 800)) := Lib.hid (if_neg (by rw [← hR.out]; exact hE))
    have hz3 : w.heap.size + 1 + 1 < w0.heap.size + 1 := by omega
    go_wp2_with (refine wpList_sto _ rfl (.tmp 4) (.tmp 22) 30 rfl C1 (by kernel_rfl) (by rfl) (vs := [.int .i64 0, .bool false, .int .i64 0, .int .i64 0, .string ⟨#[]⟩, .int .i64 0, .int .i64 0, .slice none 0 0, .slice none 0 0, .slice none 0 0]) (by intro u hu; simp only [List.mem_cons, List.not_mem_nil, or_false] at hu; rcases hu with rfl | rfl | rfl | rfl | rfl | rfl | rfl | rfl | rfl | rfl <;> rfl) rfl rfl ?_)
    intro w20 C20 f20 z20
    clear q0 q1 q2 q3 q4 q5 q6 q7 q8 q9
    obtain ⟨q0, q1, q2, q3, q4, q5, q6, q7, q8, q9⟩ := obj10 C20
    go_wp2_with (fail)
    refine bodyPost_ret (v := .tuple #[.agg #[.int .i64 0, .bool false, .int .i64 0, .int .i64 0, .string ⟨#[]⟩, .int .i64 0, .int .i64 0, .slice none 0 0, .slice none 0 0, .slice none 0 0], .int .i64 800]) (by simp [results, Tryz.results78, go_sem, *]) rfl ?_
    exact ⟨_, _, _, by rw [HX.out]; rfl, by rw [HX.out]; exact ⟨Ow.nil _ _ _ _ _, Ow.nil _ _ _ _ _, Ow.nil _ _ _ _ _⟩, F1.then f20 fun k hk e => by omega⟩
end Go.Proofs.YtofikfkgiblblaaGreatDoor
/- The reference: may a set's entries be? -/
namespace Go.Proofs.YtofikfkgiblblaaGreatDoor
open Go.RowKit Go.Lib Go.Tt Go.Shelf
set_option maxHeartbeats 4000000 in
set_option maxRecDepth 100000 in
theorem refEntries_ok {w : World} {c : CellV} {ve vl vs : Value} (h : CellR w c ve vl vs) :
    Calls Tryz.prog 55 #[cval c ve vl vs] w fun e w' => e = .returned (.bool (entsMay c)) ∧ Frm No w w' := by
  obtain ⟨he, hl, hs⟩ := h
  obtain ⟨ae, ce, rfl⟩ := he.sh
  obtain ⟨al, cl, rfl⟩ := hl.sh
  obtain ⟨at_, cs, rfl⟩ := hs.sh
  have hlm : c.ents.length ≤ 9223372036854775807 := by have h := he.facts; have := h.2.1; have := h.2.2.1; unfold maxLen at *; omega
  obtain ⟨B, hBq⟩ : ∃ B : Bool, Hid (B = entsMay c) := ⟨_, Lib.hid rfl⟩
  rw [← hBq.out]
  have HE := Lib.hid he
  have HS := Lib.hid hs
  clear he hl hs
  unfold cval
  go_enter Tryz.func55, Tryz.ntmps55
  go_wp2_with (fail)
  go_loopg [3] (c.ents.length + 1) (fun g iv wr => ∃ i : Nat, iv = .int .i64 i ∧ Frm No w wr ∧ i ≤ c.ents.length ∧ g = c.ents.length - i + 1 ∧ wr.heap[w.heap.size]? = some (.cells #[.int .i64 c.kind, .bool c.set, .int .i64 c.st.1, .int .i64 c.st.2, .string c.value, .int .i64 c.num.1, .int .i64 c.num.2, .slice ae c.ents.length ce, .slice al c.elems.length cl, .slice at_ c.seen.length cs] 30 (0, 0)) ∧ entsRow c i)
  case atStart => exact ⟨0, rfl, (Frm.refl _ _).al _, Nat.zero_le _, by omega, heap_alloc_new w _, fun j hj => by omega⟩
  case round =>
    obtain ⟨i, rfl, F, hi, hg, Bk, hp⟩ := hrel
    have hG := Lib.hid hg
    have hP := Lib.hid hp
    clear hg hp
    have nb' := lt_of_block Bk
    by_cases hlt : i < c.ents.length
    · obtain ⟨b, off, rfl, hb, hc⟩ := (HE.out.no F).at hlt
      have e0 : wr.cell? ⟨b, off + i * 3, none⟩ = some (.int .i64 c.ents[i].1) := hc 0 _ rfl
      have e1 : wr.cell? ⟨b, off + i * 3 + 1, none⟩ = some (.int .i64 c.ents[i].2.1) := hc 1 _ rfl
      have e2 : wr.cell? ⟨b, off + i * 3 + 2, none⟩ = some (.string c.ents[i].2.2) := hc 2 _ rfl
      clear hc
      have q9 : wr.cell? ⟨w.heap.size, 9, none⟩ = some (.slice at_ c.seen.length cs) := obj_cell Bk 9
      have q7 : wr.cell? ⟨w.heap.size, 7, none⟩ = some (.slice (some ⟨b, off, none⟩) c.ents.length ce) := obj_cell Bk 7
      have HC := Lib.hid (fun W (f : Frm No wr W) => refHas_ok (HS.out.no (F.trans f)) (eDot c.ents[i]))
      have HX : Hid (c.ents.getD i En0 = c.ents[i]) := Lib.hid (gd hlt)
      obtain ⟨x, hx⟩ : ∃ x, Hid (x = c.ents[i]) := ⟨_, Lib.hid rfl⟩
      rw [← hx.out] at e0 e1 e2 HC HX
      rcases hv : vHas c.seen (eDot x) with _ | _
      · have HV : Hid (B = false) := Lib.hid (by
          rw [hBq.out]
          refine decide_eq_false fun h => ?_
          have := (h i hlt).1
          rw [HX.out, hv] at this
          cases this)
        rw [hv] at HC
        clear hv
        unfold eDot at HC
        go_wp2_with (fail)
        refine wp_region_plan [([0, 1, 2, 3, 4, 5, 6, 7, 8, 9, 10, 11, 12, 13, 14, 15, 16, 17, 18, 23, 24, 19], [24, 17]), ([20, 21, 22, 25, 26, 27, 28], [])] 46 (by kernel_rfl) (by kernel_rfl) (by simp) ?_
        intro N hN
        simp only [wpSegs, List.map_cons, List.map_nil, List.getD_cons_zero, List.getD_cons_succ]
        go_wp2_with (fail)
        refine (HC.out _ (((Frm.refl No wr).al _).dr _)).mono ?_
        rintro e w1 ⟨rfl, f1⟩
        have C1 : w1.heap[wr.heap.size]? = some (.cells #[.int .i64 x.1, .int .i64 x.2.1, .string x.2.2] 62 (0, 0)) := f1.obj (show ((wr.alloc (.cells #[.int .i64 x.1, .int .i64 x.2.1, .string x.2.2] 62 (0, 0))).drewN 1).heap[wr.heap.size]? = _ from heap_alloc_new wr _) id
        have B1 : w1.heap[w.heap.size]? = some (.cells #[.int .i64 c.kind, .bool c.set, .int .i64 c.st.1, .int .i64 c.st.2, .string c.value, .int .i64 c.num.1, .int .i64 c.num.2, .slice (some ⟨b, off, none⟩) c.ents.length ce, .slice al c.elems.length cl, .slice at_ c.seen.length cs] 30 (0, 0)) := f1.obj (show ((wr.alloc (.cells #[.int .i64 x.1, .int .i64 x.2.1, .string x.2.2] 62 (0, 0))).drewN 1).heap[w.heap.size]? = _ from al_old Bk) id
        have F1 : Frm No wr w1 := (((Frm.refl No wr).al _).dr _).trans f1
        have c0 : w1.cell? ⟨wr.heap.size, 0, none⟩ = some (.int .i64 x.1) := obj_cell C1 0
        have c1 : w1.cell? ⟨wr.heap.size, 1, none⟩ = some (.int .i64 x.2.1) := obj_cell C1 1
        have c2 : w1.cell? ⟨wr.heap.size, 2, none⟩ = some (.string x.2.2) := obj_cell C1 2
        have d7 : w1.cell? ⟨w.heap.size, 7, none⟩ = some (.slice (some ⟨b, off, none⟩) c.ents.length ce) := obj_cell B1 7
        have nc := lt_of_block C1
        have nd := lt_of_block B1
        clear f1 HC
        go_wp2_with (fail)
        refine ⟨again_cons (again_off rfl rfl) (again_cons (again_off rfl rfl) again_nil), ?_⟩
        go_wp2_with (fail)
        go_ret
        exact ⟨congrArg (fun b => Ending.returned (Value.bool b)) HV.out.symm, F.trans F1⟩
      have HV := Lib.hid hv
      rw [hv] at HC
      clear hv
      unfold eDot at HC
      by_cases hs : x.2.2.size ≤ 256
      case neg =>
        have HVs : Hid (B = false) := Lib.hid (by
          rw [hBq.out]
          refine decide_eq_false fun h => ?_
          have := (h i hlt).2.1
          rw [HX.out] at this
          exact hs this)
        have hs' : (256 : Int) < x.2.2.size := by omega
        clear hs
        go_wp2_with (fail)
        refine wp_region_plan [([0, 1, 2, 3, 4, 5, 6, 7, 8, 9, 10, 11, 12, 13, 14, 15, 16, 17, 18, 23, 24, 19], [24, 17]), ([20, 21, 22, 25, 26, 27, 28], [])] 46 (by kernel_rfl) (by kernel_rfl) (by simp) ?_
        intro N hN
        simp only [wpSegs, List.map_cons, List.map_nil, List.getD_cons_zero, List.getD_cons_succ]
        go_wp2_with (fail)
        refine (HC.out _ (((Frm.refl No wr).al _).dr _)).mono ?_
        rintro e w1 ⟨rfl, f1⟩
        have C1 : w1.heap[wr.heap.size]? = some (.cells #[.int .i64 x.1, .int .i64 x.2.1, .string x.2.2] 62 (0, 0)) := f1.obj (show ((wr.alloc (.cells #[.int .i64 x.1, .int .i64 x.2.1, .string x.2.2] 62 (0, 0))).drewN 1).heap[wr.heap.size]? = _ from heap_alloc_new wr _) id
        have B1 : w1.heap[w.heap.size]? = some (.cells #[.int .i64 c.kind, .bool c.set, .int .i64 c.st.1, .int .i64 c.st.2, .string c.value, .int .i64 c.num.1, .int .i64 c.num.2, .slice (some ⟨b, off, none⟩) c.ents.length ce, .slice al c.elems.length cl, .slice at_ c.seen.length cs] 30 (0, 0)) := f1.obj (show ((wr.alloc (.cells #[.int .i64 x.1, .int .i64 x.2.1, .string x.2.2] 62 (0, 0))).drewN 1).heap[w.heap.size]? = _ from al_old Bk) id
        have F1 : Frm No wr w1 := (((Frm.refl No wr).al _).dr _).trans f1
        have c0 : w1.cell? ⟨wr.heap.size, 0, none⟩ = some (.int .i64 x.1) := obj_cell C1 0
        have c1 : w1.cell? ⟨wr.heap.size, 1, none⟩ = some (.int .i64 x.2.1) := obj_cell C1 1
        have c2 : w1.cell? ⟨wr.heap.size, 2, none⟩ = some (.string x.2.2) := obj_cell C1 2
        have d7 : w1.cell? ⟨w.heap.size, 7, none⟩ = some (.slice (some ⟨b, off, none⟩) c.ents.length ce) := obj_cell B1 7
        have nc := lt_of_block C1
        have nd := lt_of_block B1
        clear f1 HC
        go_wp2_with (fail)
        refine ⟨again_cons (again_off rfl rfl) (again_cons (again_off rfl rfl) again_nil), ?_⟩
        go_wp2_with (fail)
        go_ret
        exact ⟨congrArg (fun b => Ending.returned (Value.bool b)) HVs.out.symm, F.trans F1⟩
      have HSZ := Lib.hid hs
      have hs' : ¬ ((256 : Int) < x.2.2.size) := by omega
      clear hs
      by_cases hi0 : i = 0
      · have hi0' : ¬ ((0 : Int) < (i : Int)) := by omega
        have HI := Lib.hid hi0
        clear hi0
        go_wp2_with (fail)
        refine wp_region_plan [([0, 1, 2, 3, 4, 5, 6, 7, 8, 9, 10, 11, 12, 13, 14, 15, 16, 17, 18, 23, 24, 19], [24, 17]), ([20, 21, 22, 25, 26, 27, 28], [])] 46 (by kernel_rfl) (by kernel_rfl) (by simp) ?_
        intro N hN
        simp only [wpSegs, List.map_cons, List.map_nil, List.getD_cons_zero, List.getD_cons_succ]
        go_wp2_with (fail)
        refine (HC.out _ (((Frm.refl No wr).al _).dr _)).mono ?_
        rintro e w1 ⟨rfl, f1⟩
        have C1 : w1.heap[wr.heap.size]? = some (.cells #[.int .i64 x.1, .int .i64 x.2.1, .string x.2.2] 62 (0, 0)) := f1.obj (show ((wr.alloc (.cells #[.int .i64 x.1, .int .i64 x.2.1, .string x.2.2] 62 (0, 0))).drewN 1).heap[wr.heap.size]? = _ from heap_alloc_new wr _) id
        have B1 : w1.heap[w.heap.size]? = some (.cells #[.int .i64 c.kind, .bool c.set, .int .i64 c.st.1, .int .i64 c.st.2, .string c.value, .int .i64 c.num.1, .int .i64 c.num.2, .slice (some ⟨b, off, none⟩) c.ents.length ce, .slice al c.elems.length cl, .slice at_ c.seen.length cs] 30 (0, 0)) := f1.obj (show ((wr.alloc (.cells #[.int .i64 x.1, .int .i64 x.2.1, .string x.2.2] 62 (0, 0))).drewN 1).heap[w.heap.size]? = _ from al_old Bk) id
        have F1 : Frm No wr w1 := (((Frm.refl No wr).al _).dr _).trans f1
        have c0 : w1.cell? ⟨wr.heap.size, 0, none⟩ = some (.int .i64 x.1) := obj_cell C1 0
        have c1 : w1.cell? ⟨wr.heap.size, 1, none⟩ = some (.int .i64 x.2.1) := obj_cell C1 1
        have c2 : w1.cell? ⟨wr.heap.size, 2, none⟩ = some (.string x.2.2) := obj_cell C1 2
        have d7 : w1.cell? ⟨w.heap.size, 7, none⟩ = some (.slice (some ⟨b, off, none⟩) c.ents.length ce) := obj_cell B1 7
        have nc := lt_of_block C1
        have nd := lt_of_block B1
        clear f1 HC
        go_wp2_with (fail)
        refine ⟨again_cons (again_off rfl rfl) (again_cons (again_off rfl rfl) again_nil), ?_⟩
        go_wp2_with (fail)
        go_roundg (c.ents.length - (i + 1) + 1)
        case measure => have := hG.out; omega
        case rel => exact ⟨i + 1, by go_num, F.trans F1, by omega, rfl, B1, entsRow_step hP.out (by rw [HX.out]; exact HV.out) (by rw [HX.out]; exact HSZ.out) fun h => by have := HI.out; omega⟩
      · obtain ⟨k, hk⟩ : ∃ k, i = k + 1 := ⟨i - 1, by omega⟩
        subst hk
        have lk : k < c.ents.length := by omega
        obtain ⟨b', off', heq, -, hc⟩ := (HE.out.no F).at lk
        simp only [Option.some.injEq, Addr.mk.injEq, and_true] at heq
        obtain ⟨rfl, rfl⟩ := heq
        have p0 : wr.cell? ⟨b, off + k * 3, none⟩ = some (.int .i64 c.ents[k].1) := hc 0 _ rfl
        have p1 : wr.cell? ⟨b, off + k * 3 + 1, none⟩ = some (.int .i64 c.ents[k].2.1) := hc 1 _ rfl
        clear hc
        have HY : Hid (c.ents.getD k En0 = c.ents[k]) := Lib.hid (gd lk)
        obtain ⟨y, hy⟩ : ∃ y, Hid (y = c.ents[k]) := ⟨_, Lib.hid rfl⟩
        rw [← hy.out] at p0 p1 HY
        have HD := Lib.hid (fun W => refDotLess (eDot y) (eDot x) W)
        have e9 : ((k + 1 : Nat) : Int) - 1 = (k : Int) := by omega
        rcases hdl : dotLess (eDot y) (eDot x) with _ | _
        · rw [hdl] at HD
          unfold eDot at HD
          have HV' : Hid (B = false) := Lib.hid (by
            rw [hBq.out]
            refine decide_eq_false fun h => ?_
            have := (h (k + 1) hlt).2.2 (Nat.succ_pos k)
            rw [HX.out, Nat.add_sub_cancel, HY.out, hdl] at this
            cases this)
          clear hdl
          go_wp2_with (fail)
          refine wp_region_plan [([0, 1, 2, 3, 4, 5, 6, 7, 8, 9, 10, 11, 12, 13, 14, 15, 16, 17, 18, 23, 24, 19], [24, 17]), ([20, 21, 22, 25, 26, 27, 28], [])] 46 (by kernel_rfl) (by kernel_rfl) (by simp) ?_
          intro N hN
          simp only [wpSegs, List.map_cons, List.map_nil, List.getD_cons_zero, List.getD_cons_succ]
          go_wp2_with (fail)
          refine (HC.out _ (((Frm.refl No wr).al _).dr _)).mono ?_
          rintro e w1 ⟨rfl, f1⟩
          have C1 : w1.heap[wr.heap.size]? = some (.cells #[.int .i64 x.1, .int .i64 x.2.1, .string x.2.2] 62 (0, 0)) := f1.obj (show ((wr.alloc (.cells #[.int .i64 x.1, .int .i64 x.2.1, .string x.2.2] 62 (0, 0))).drewN 1).heap[wr.heap.size]? = _ from heap_alloc_new wr _) id
          have B1 : w1.heap[w.heap.size]? = some (.cells #[.int .i64 c.kind, .bool c.set, .int .i64 c.st.1, .int .i64 c.st.2, .string c.value, .int .i64 c.num.1, .int .i64 c.num.2, .slice (some ⟨b, off, none⟩) c.ents.length ce, .slice al c.elems.length cl, .slice at_ c.seen.length cs] 30 (0, 0)) := f1.obj (show ((wr.alloc (.cells #[.int .i64 x.1, .int .i64 x.2.1, .string x.2.2] 62 (0, 0))).drewN 1).heap[w.heap.size]? = _ from al_old Bk) id
          have F1 : Frm No wr w1 := (((Frm.refl No wr).al _).dr _).trans f1
          have c0 : w1.cell? ⟨wr.heap.size, 0, none⟩ = some (.int .i64 x.1) := obj_cell C1 0
          have c1 : w1.cell? ⟨wr.heap.size, 1, none⟩ = some (.int .i64 x.2.1) := obj_cell C1 1
          have c2 : w1.cell? ⟨wr.heap.size, 2, none⟩ = some (.string x.2.2) := obj_cell C1 2
          have d7 : w1.cell? ⟨w.heap.size, 7, none⟩ = some (.slice (some ⟨b, off, none⟩) c.ents.length ce) := obj_cell B1 7
          have nc := lt_of_block C1
          have nd := lt_of_block B1
          clear f1 HC
          have p0' : w1.cell? ⟨b, off + k * 3, none⟩ = some (.int .i64 y.1) := (F1.cell (p := ⟨b, off + k * 3, none⟩) hb id).trans p0
          have p1' : w1.cell? ⟨b, off + k * 3 + 1, none⟩ = some (.int .i64 y.2.1) := (F1.cell (p := ⟨b, off + k * 3 + 1, none⟩) hb id).trans p1
          go_wp2_with (fail)
          refine ⟨again_cons (again_of rfl rfl ?_) (again_cons (again_of rfl rfl ?_) again_nil), ?_⟩
          · go_simp
          · go_simp
          go_wp2_with (fail)
          refine (HD.out _).mono ?_
          rintro e w2 ⟨rfl, f2⟩
          go_wp2_with (fail)
          go_ret
          exact ⟨congrArg (fun b => Ending.returned (Value.bool b)) HV'.out.symm, F.trans (F1.trans f2)⟩
        · rw [hdl] at HD
          unfold eDot at HD
          have HDL := Lib.hid hdl
          clear hdl
          go_wp2_with (fail)
          refine wp_region_plan [([0, 1, 2, 3, 4, 5, 6, 7, 8, 9, 10, 11, 12, 13, 14, 15, 16, 17, 18, 23, 24, 19], [24, 17]), ([20, 21, 22, 25, 26, 27, 28], [])] 46 (by kernel_rfl) (by kernel_rfl) (by simp) ?_
          intro N hN
          simp only [wpSegs, List.map_cons, List.map_nil, List.getD_cons_zero, List.getD_cons_succ]
          go_wp2_with (fail)
          refine (HC.out _ (((Frm.refl No wr).al _).dr _)).mono ?_
          rintro e w1 ⟨rfl, f1⟩
          have C1 : w1.heap[wr.heap.size]? = some (.cells #[.int .i64 x.1, .int .i64 x.2.1, .string x.2.2] 62 (0, 0)) := f1.obj (show ((wr.alloc (.cells #[.int .i64 x.1, .int .i64 x.2.1, .string x.2.2] 62 (0, 0))).drewN 1).heap[wr.heap.size]? = _ from heap_alloc_new wr _) id
          have B1 : w1.heap[w.heap.size]? = some (.cells #[.int .i64 c.kind, .bool c.set, .int .i64 c.st.1, .int .i64 c.st.2, .string c.value, .int .i64 c.num.1, .int .i64 c.num.2, .slice (some ⟨b, off, none⟩) c.ents.length ce, .slice al c.elems.length cl, .slice at_ c.seen.length cs] 30 (0, 0)) := f1.obj (show ((wr.alloc (.cells #[.int .i64 x.1, .int .i64 x.2.1, .string x.2.2] 62 (0, 0))).drewN 1).heap[w.heap.size]? = _ from al_old Bk) id
          have F1 : Frm No wr w1 := (((Frm.refl No wr).al _).dr _).trans f1
          have c0 : w1.cell? ⟨wr.heap.size, 0, none⟩ = some (.int .i64 x.1) := obj_cell C1 0
          have c1 : w1.cell? ⟨wr.heap.size, 1, none⟩ = some (.int .i64 x.2.1) := obj_cell C1 1
          have c2 : w1.cell? ⟨wr.heap.size, 2, none⟩ = some (.string x.2.2) := obj_cell C1 2
          have d7 : w1.cell? ⟨w.heap.size, 7, none⟩ = some (.slice (some ⟨b, off, none⟩) c.ents.length ce) := obj_cell B1 7
          have nc := lt_of_block C1
          have nd := lt_of_block B1
          clear f1 HC
          have p0' : w1.cell? ⟨b, off + k * 3, none⟩ = some (.int .i64 y.1) := (F1.cell (p := ⟨b, off + k * 3, none⟩) hb id).trans p0
          have p1' : w1.cell? ⟨b, off + k * 3 + 1, none⟩ = some (.int .i64 y.2.1) := (F1.cell (p := ⟨b, off + k * 3 + 1, none⟩) hb id).trans p1
          go_wp2_with (fail)
          refine ⟨again_cons (again_of rfl rfl ?_) (again_cons (again_of rfl rfl ?_) again_nil), ?_⟩
          · go_simp
          · go_simp
          go_wp2_with (fail)
          refine (HD.out _).mono ?_
          rintro e w2 ⟨rfl, f2⟩
          have B2 := f2.obj B1 id
          go_wp2_with (fail)
          go_roundg (c.ents.length - (k + 1 + 1) + 1)
          case measure => have := hG.out; omega
          case rel => exact ⟨k + 1 + 1, by go_num, F.trans (F1.trans f2), by omega, rfl, B2, entsRow_step hP.out (by rw [HX.out]; exact HV.out) (by rw [HX.out]; exact HSZ.out) fun h => by rw [HX.out, Nat.add_sub_cancel, HY.out]; exact HDL.out⟩
    · have hii : ¬ ((i : Int) < (c.ents.length : Int)) := by omega
      have hv : Hid (B = true) := Lib.hid (by
        rw [hBq.out]
        refine decide_eq_true ?_
        obtain rfl : i = c.ents.length := by omega
        exact hP.out)
      have q7 : wr.cell? ⟨w.heap.size, 7, none⟩ = some (.slice ae c.ents.length ce) := obj_cell Bk 7
      go_wp2_with (fail)
      go_ret
      exact ⟨congrArg (fun b => Ending.returned (Value.bool b)) hv.out.symm, F⟩
end Go.Proofs.YtofikfkgiblblaaGreatDoor
/- The reference: may a list's elements be? -/
namespace Go.Proofs.YtofikfkgiblblaaGreatDoor
open Go.RowKit Go.Lib Go.Tt Go.Shelf
theorem place_first {l : List El} {i : Nat} (h : i < l.length) (hn : elDot l[i] ∉ (l.take i).map elDot) : findEl l (elDot l[i]) = i := by
  refine findEl_at h rfl fun j hj hji e => hn (List.mem_map.2 ⟨l[j], List.mem_take_iff_getElem.2 ⟨j, by omega, rfl⟩, e⟩)
theorem place_later {l : List El} {i : Nat} (h : i < l.length) (hn : elDot l[i] ∈ (l.take i).map elDot) : ¬ findEl l (elDot l[i]) = i := by
  obtain ⟨x, hx, e⟩ := List.mem_map.1 hn
  obtain ⟨j, hj, rfl⟩ := List.mem_take_iff_getElem.1 hx
  intro hq
  unfold findEl idxFL at hq
  split at hq
  · have h1 : l.findIdx (fun e => decide ((e.1, e.2.1) = elDot l[i])) = i := by omega
    have := List.not_of_lt_findIdx (p := fun e : El => decide ((e.1, e.2.1) = elDot l[i])) (xs := l) (i := j) (by omega)
    rw [show decide ((l[j].1, l[j].2.1) = elDot l[i]) = true from decide_eq_true e] at this
    cases this
  · omega
theorem elsRow_step {c : CellV} {k : Nat} (h : elsRow c k) (h0 : elDot (c.elems.getD k El0) ∉ (c.elems.take k).map elDot) (h1 : vHas c.seen (elDot (c.elems.getD k El0)) = true) (h2 : timeMay (c.elems.getD k El0).2.2.1 = true) (h3 : (c.elems.getD k El0).2.2.2.1.size ≤ 256) (h4 : (c.elems.getD k El0).2.2.2.2 = true → (c.elems.getD k El0).2.2.2.1.size = 0) : elsRow c (k + 1) := fun j hj => by
  rcases Nat.lt_or_ge j k with h5 | h5
  · exact h j h5
  · obtain rfl : j = k := by omega
    exact ⟨h0, h1, h2, h3, h4⟩
set_option maxHeartbeats 8000000 in
set_option maxRecDepth 100000 in
theorem refElems_ok {w : World} {c : CellV} {ve vl vs : Value} (h : CellR w c ve vl vs) :
    Calls Tryz.prog 56 #[cval c ve vl vs] w fun e w' => e = .returned (.bool (elsMay c)) ∧ Frm No w w' := by
  have HR := Lib.hid h
  obtain ⟨he, hl, hs⟩ := h
  obtain ⟨ae, ce, rfl⟩ := he.sh
  obtain ⟨al, cl, rfl⟩ := hl.sh
  obtain ⟨at_, cs, rfl⟩ := hs.sh
  have hlm : c.elems.length ≤ 9223372036854775807 := by have h := hl.facts; have := h.2.1; have := h.2.2.1; unfold maxLen at *; omega
  obtain ⟨B, hBq⟩ : ∃ B : Bool, Hid (B = elsMay c) := ⟨_, Lib.hid rfl⟩
  rw [← hBq.out]
  have HE := Lib.hid hl
  have HS := Lib.hid hs
  clear he hl hs
  unfold cval at *
  go_enter Tryz.func56, Tryz.ntmps56
  go_wp2_with (fail)
  go_loopg [3] (c.elems.length + 1) (fun g iv wr => ∃ i : Nat, iv = .int .i64 i ∧ Frm No w wr ∧ i ≤ c.elems.length ∧ g = c.elems.length - i + 1 ∧ wr.heap[w.heap.size]? = some (.cells #[.int .i64 c.kind, .bool c.set, .int .i64 c.st.1, .int .i64 c.st.2, .string c.value, .int .i64 c.num.1, .int .i64 c.num.2, .slice ae c.ents.length ce, .slice al c.elems.length cl, .slice at_ c.seen.length cs] 30 (0, 0)) ∧ elsRow c i)
  case atStart => exact ⟨0, rfl, (Frm.refl _ _).al _, Nat.zero_le _, by omega, heap_alloc_new w _, fun j hj => by omega⟩
  case round =>
    obtain ⟨i, rfl, F, hi, hg, Bk, hp⟩ := hrel
    have hG := Lib.hid hg
    have hP := Lib.hid hp
    clear hg hp
    have nb' := lt_of_block Bk
    by_cases hlt : i < c.elems.length
    · obtain ⟨b, off, rfl, hb, hc⟩ := (HE.out.no F).at hlt
      have e0 : wr.cell? ⟨b, off + i * 5, none⟩ = some (.int .i64 c.elems[i].1) := hc 0 _ rfl
      have e1 : wr.cell? ⟨b, off + i * 5 + 1, none⟩ = some (.int .i64 c.elems[i].2.1) := hc 1 _ rfl
      have e2 : wr.cell? ⟨b, off + i * 5 + 2, none⟩ = some (.int .i64 c.elems[i].2.2.1) := hc 2 _ rfl
      have e3 : wr.cell? ⟨b, off + i * 5 + 3, none⟩ = some (.string c.elems[i].2.2.2.1) := hc 3 _ rfl
      have e4 : wr.cell? ⟨b, off + i * 5 + 4, none⟩ = some (.bool c.elems[i].2.2.2.2) := hc 4 _ rfl
      clear hc
      have q9 : wr.cell? ⟨w.heap.size, 9, none⟩ = some (.slice at_ c.seen.length cs) := obj_cell Bk 9
      have q8 : wr.cell? ⟨w.heap.size, 8, none⟩ = some (.slice (some ⟨b, off, none⟩) c.elems.length cl) := obj_cell Bk 8
      have HX : Hid (c.elems.getD i El0 = c.elems[i]) := Lib.hid (gd hlt)
      obtain ⟨x, hx⟩ : ∃ x, Hid (x = c.elems[i]) := ⟨_, Lib.hid rfl⟩
      rw [← hx.out] at e0 e1 e2 e3 e4 HX
      obtain ⟨x1, x2, x3, x4, x5⟩ := x
      have HC := Lib.hid (fun W (f : Frm No wr W) => refHas_ok (HS.out.no (F.trans f)) (x1, x2))
      rcases hv : vHas c.seen (x1, x2) with _ | _
      · have HV9 : Hid (B = false) := Lib.hid (by
          rw [hBq.out]
          refine decide_eq_false fun h => ?_
          have h9 := h i hlt
          rw [HX.out] at h9
          exact by have := h9.2.1; rw [show elDot (x1, x2, x3, x4, x5) = (x1, x2) from rfl, hv] at this; cases this)
        rw [hv] at HC
        clear hv
        go_wp2_with (fail)
        refine (HC.out _ ((Frm.refl No wr).al _)).mono ?_
        rintro e w1 ⟨rfl, f1⟩
        have C1 := f1.obj (heap_alloc_new wr (.cells #[.int .i64 x1, .int .i64 x2, .int .i64 x3, .string x4, .bool x5] 59 (0, 0))) id
        have B1 := f1.obj (al_old (o' := (.cells #[.int .i64 x1, .int .i64 x2, .int .i64 x3, .string x4, .bool x5] 59 (0, 0))) Bk) id
        have F1 : Frm No wr w1 := ((Frm.refl No wr).al _).trans f1
        have c0 := obj_cell C1 0
        have c1 := obj_cell C1 1
        have c2 := obj_cell C1 2
        have c3 := obj_cell C1 3
        have c4 := obj_cell C1 4
        simp at c0 c1 c2 c3 c4
        obtain ⟨p0, p1, p2, p3, p4, p5, p6, p7, p8, p9⟩ := obj10 B1
        have nc := lt_of_block C1
        have nd := lt_of_block B1
        clear f1 HC q8 q9
        go_wp2_with (fail)
        go_ret
        exact ⟨congrArg (fun b => Ending.returned (Value.bool b)) HV9.out.symm, F.trans F1⟩
      have HV : Hid (vHas c.seen (elDot (x1, x2, x3, x4, x5)) = true) := Lib.hid hv
      rw [hv] at HC
      clear hv
      by_cases ht : 1 ≤ x3
      case neg =>
        have ht1 : x3 < 1 := by omega
        have HV9 : Hid (B = false) := Lib.hid (by
          rw [hBq.out]
          refine decide_eq_false fun h => ?_
          have h9 := h i hlt
          rw [HX.out] at h9
          exact by have := of_decide_eq_true h9.2.2.1; exact ht this.1)
        clear ht
        go_wp2_with (fail)
        refine (HC.out _ ((Frm.refl No wr).al _)).mono ?_
        rintro e w1 ⟨rfl, f1⟩
        have C1 := f1.obj (heap_alloc_new wr (.cells #[.int .i64 x1, .int .i64 x2, .int .i64 x3, .string x4, .bool x5] 59 (0, 0))) id
        have B1 := f1.obj (al_old (o' := (.cells #[.int .i64 x1, .int .i64 x2, .int .i64 x3, .string x4, .bool x5] 59 (0, 0))) Bk) id
        have F1 : Frm No wr w1 := ((Frm.refl No wr).al _).trans f1
        have c0 := obj_cell C1 0
        have c1 := obj_cell C1 1
        have c2 := obj_cell C1 2
        have c3 := obj_cell C1 3
        have c4 := obj_cell C1 4
        simp at c0 c1 c2 c3 c4
        obtain ⟨p0, p1, p2, p3, p4, p5, p6, p7, p8, p9⟩ := obj10 B1
        have nc := lt_of_block C1
        have nd := lt_of_block B1
        clear f1 HC q8 q9
        go_wp2_with (fail)
        go_ret
        exact ⟨congrArg (fun b => Ending.returned (Value.bool b)) HV9.out.symm, F.trans F1⟩
      have ht1 : ¬ x3 < 1 := by omega
      by_cases ht2 : x3 ≤ 16777215
      case neg =>
        have ht3 : (16777215 : Int) < x3 := by omega
        have HV9 : Hid (B = false) := Lib.hid (by
          rw [hBq.out]
          refine decide_eq_false fun h => ?_
          have h9 := h i hlt
          rw [HX.out] at h9
          exact by have := of_decide_eq_true h9.2.2.1; exact ht2 this.2)
        clear ht2
        go_wp2_with (fail)
        refine (HC.out _ ((Frm.refl No wr).al _)).mono ?_
        rintro e w1 ⟨rfl, f1⟩
        have C1 := f1.obj (heap_alloc_new wr (.cells #[.int .i64 x1, .int .i64 x2, .int .i64 x3, .string x4, .bool x5] 59 (0, 0))) id
        have B1 := f1.obj (al_old (o' := (.cells #[.int .i64 x1, .int .i64 x2, .int .i64 x3, .string x4, .bool x5] 59 (0, 0))) Bk) id
        have F1 : Frm No wr w1 := ((Frm.refl No wr).al _).trans f1
        have c0 := obj_cell C1 0
        have c1 := obj_cell C1 1
        have c2 := obj_cell C1 2
        have c3 := obj_cell C1 3
        have c4 := obj_cell C1 4
        simp at c0 c1 c2 c3 c4
        obtain ⟨p0, p1, p2, p3, p4, p5, p6, p7, p8, p9⟩ := obj10 B1
        have nc := lt_of_block C1
        have nd := lt_of_block B1
        clear f1 HC q8 q9
        go_wp2_with (fail)
        go_ret
        exact ⟨congrArg (fun b => Ending.returned (Value.bool b)) HV9.out.symm, F.trans F1⟩
      have ht3 : ¬ (16777215 : Int) < x3 := by omega
      have HT : Hid (timeMay x3 = true) := Lib.hid (decide_eq_true ⟨ht, ht2⟩)
      clear ht ht2
      by_cases hs : x4.size ≤ 256
      case neg =>
        have hs1 : (256 : Int) < x4.size := by omega
        have HV9 : Hid (B = false) := Lib.hid (by
          rw [hBq.out]
          refine decide_eq_false fun h => ?_
          have h9 := h i hlt
          rw [HX.out] at h9
          exact hs h9.2.2.2.1)
        clear hs
        go_wp2_with (fail)
        refine (HC.out _ ((Frm.refl No wr).al _)).mono ?_
        rintro e w1 ⟨rfl, f1⟩
        have C1 := f1.obj (heap_alloc_new wr (.cells #[.int .i64 x1, .int .i64 x2, .int .i64 x3, .string x4, .bool x5] 59 (0, 0))) id
        have B1 := f1.obj (al_old (o' := (.cells #[.int .i64 x1, .int .i64 x2, .int .i64 x3, .string x4, .bool x5] 59 (0, 0))) Bk) id
        have F1 : Frm No wr w1 := ((Frm.refl No wr).al _).trans f1
        have c0 := obj_cell C1 0
        have c1 := obj_cell C1 1
        have c2 := obj_cell C1 2
        have c3 := obj_cell C1 3
        have c4 := obj_cell C1 4
        simp at c0 c1 c2 c3 c4
        obtain ⟨p0, p1, p2, p3, p4, p5, p6, p7, p8, p9⟩ := obj10 B1
        have nc := lt_of_block C1
        have nd := lt_of_block B1
        clear f1 HC q8 q9
        go_wp2_with (fail)
        go_ret
        exact ⟨congrArg (fun b => Ending.returned (Value.bool b)) HV9.out.symm, F.trans F1⟩
      have hs1 : ¬ (256 : Int) < x4.size := by omega
      have HSZ : Hid (x4.size ≤ 256) := Lib.hid hs
      clear hs
      rcases x5 with _ | _
      · by_cases hin : elDot c.elems[i] ∈ (c.elems.take i).map elDot
        · have hn := Lib.hid hin
          have HIN : Hid (elDot (c.elems.getD i El0) ∈ (c.elems.take i).map elDot) := Lib.hid (by rw [gd hlt]; exact hin)
          clear hin
          have hne := place_later hlt hn.out
          rw [← hx.out] at hne
          obtain ⟨u, hu⟩ : ∃ u, Hid (u = findEl c.elems (x1, x2)) := ⟨_, Lib.hid rfl⟩
          have hne' : ¬ u = (i : Int) := by rw [hu.out]; exact hne
          have hne2 : (u != (i : Int)) = true := by simpa using hne'
          have HU : Hid (findEl c.elems (x1, x2) = u) := Lib.hid hu.out.symm
          clear hne hn
          have HV9 : Hid (B = false) := Lib.hid (by
            rw [hBq.out]
            refine decide_eq_false fun h => ?_
            exact (h i hlt).1 HIN.out)
          go_wp2_with (fail)
          refine (HC.out _ ((Frm.refl No wr).al _)).mono ?_
          rintro e w1 ⟨rfl, f1⟩
          have C1 := f1.obj (heap_alloc_new wr (.cells #[.int .i64 x1, .int .i64 x2, .int .i64 x3, .string x4, .bool false] 59 (0, 0))) id
          have B1 := f1.obj (al_old (o' := (.cells #[.int .i64 x1, .int .i64 x2, .int .i64 x3, .string x4, .bool false] 59 (0, 0))) Bk) id
          have F1 : Frm No wr w1 := ((Frm.refl No wr).al _).trans f1
          have c0 := obj_cell C1 0
          have c1 := obj_cell C1 1
          have c2 := obj_cell C1 2
          have c3 := obj_cell C1 3
          have c4 := obj_cell C1 4
          simp at c0 c1 c2 c3 c4
          obtain ⟨p0, p1, p2, p3, p4, p5, p6, p7, p8, p9⟩ := obj10 B1
          have nc := lt_of_block C1
          have nd := lt_of_block B1
          clear f1 HC q8 q9
          go_wp2_with (fail)
          have HP := refPlace_ok (HR.out.no (F.trans F1)) (x1, x2)
          rw [HU.out] at HP
          refine HP.mono ?_
          rintro e w2 ⟨rfl, f2⟩
          have B2 := f2.obj B1 id
          clear HP
          go_wp2_with (fail)
          go_ret
          exact ⟨congrArg (fun b => Ending.returned (Value.bool b)) HV9.out.symm, F.trans (F1.trans f2)⟩
        · have hn := Lib.hid hin
          have HNW : Hid (elDot (c.elems.getD i El0) ∉ (c.elems.take i).map elDot) := Lib.hid (by rw [gd hlt]; exact hin)
          clear hin
          have HU : Hid (findEl c.elems (x1, x2) = (i : Int)) := Lib.hid (by have := place_first hlt hn.out; rw [← hx.out] at this; exact this)
          clear hn
          go_wp2_with (fail)
          refine (HC.out _ ((Frm.refl No wr).al _)).mono ?_
          rintro e w1 ⟨rfl, f1⟩
          have C1 := f1.obj (heap_alloc_new wr (.cells #[.int .i64 x1, .int .i64 x2, .int .i64 x3, .string x4, .bool false] 59 (0, 0))) id
          have B1 := f1.obj (al_old (o' := (.cells #[.int .i64 x1, .int .i64 x2, .int .i64 x3, .string x4, .bool false] 59 (0, 0))) Bk) id
          have F1 : Frm No wr w1 := ((Frm.refl No wr).al _).trans f1
          have c0 := obj_cell C1 0
          have c1 := obj_cell C1 1
          have c2 := obj_cell C1 2
          have c3 := obj_cell C1 3
          have c4 := obj_cell C1 4
          simp at c0 c1 c2 c3 c4
          obtain ⟨p0, p1, p2, p3, p4, p5, p6, p7, p8, p9⟩ := obj10 B1
          have nc := lt_of_block C1
          have nd := lt_of_block B1
          clear f1 HC q8 q9
          go_wp2_with (fail)
          have HP := refPlace_ok (HR.out.no (F.trans F1)) (x1, x2)
          rw [HU.out] at HP
          refine HP.mono ?_
          rintro e w2 ⟨rfl, f2⟩
          have B2 := f2.obj B1 id
          clear HP
          go_wp2_with (fail)
          go_roundg (c.elems.length - (i + 1) + 1)
          case measure => have := hG.out; omega
          case rel => exact ⟨i + 1, by go_num, F.trans (F1.trans f2), by omega, rfl, B2, elsRow_step hP.out HNW.out (by rw [HX.out]; exact HV.out) (by rw [HX.out]; exact HT.out) (by rw [HX.out]; exact HSZ.out) (by rw [HX.out]; intro h; cases h)⟩
      · have hvs : (x4 = ⟨#[]⟩ ∧ Hid (x4.size = 0)) ∨ (x4.toList.isEmpty = false ∧ Hid (¬ x4.size = 0)) := by
          by_cases h : x4.size = 0
          · refine .inl ⟨?_, Lib.hid h⟩
            apply ByteArray.ext
            exact Array.eq_empty_of_size_eq_zero h
          · exact .inr ⟨ba_pos h, Lib.hid h⟩
        rcases hvs with ⟨rfl, hz⟩ | ⟨hz, hz0⟩
        · clear hs1
          by_cases hin : elDot c.elems[i] ∈ (c.elems.take i).map elDot
          · have hn := Lib.hid hin
            have HIN : Hid (elDot (c.elems.getD i El0) ∈ (c.elems.take i).map elDot) := Lib.hid (by rw [gd hlt]; exact hin)
            clear hin
            have hne := place_later hlt hn.out
            rw [← hx.out] at hne
            obtain ⟨u, hu⟩ : ∃ u, Hid (u = findEl c.elems (x1, x2)) := ⟨_, Lib.hid rfl⟩
            have hne' : ¬ u = (i : Int) := by rw [hu.out]; exact hne
            have hne2 : (u != (i : Int)) = true := by simpa using hne'
            have HU : Hid (findEl c.elems (x1, x2) = u) := Lib.hid hu.out.symm
            clear hne hn
            have HV9 : Hid (B = false) := Lib.hid (by
              rw [hBq.out]
              refine decide_eq_false fun h => ?_
              exact (h i hlt).1 HIN.out)
            go_wp2_with (fail)
            refine (HC.out _ ((Frm.refl No wr).al _)).mono ?_
            rintro e w1 ⟨rfl, f1⟩
            have C1 := f1.obj (heap_alloc_new wr (.cells #[.int .i64 x1, .int .i64 x2, .int .i64 x3, .string ⟨#[]⟩, .bool true] 59 (0, 0))) id
            have B1 := f1.obj (al_old (o' := (.cells #[.int .i64 x1, .int .i64 x2, .int .i64 x3, .string ⟨#[]⟩, .bool true] 59 (0, 0))) Bk) id
            have F1 : Frm No wr w1 := ((Frm.refl No wr).al _).trans f1
            have c0 := obj_cell C1 0
            have c1 := obj_cell C1 1
            have c2 := obj_cell C1 2
            have c3 := obj_cell C1 3
            have c4 := obj_cell C1 4
            simp at c0 c1 c2 c3 c4
            obtain ⟨p0, p1, p2, p3, p4, p5, p6, p7, p8, p9⟩ := obj10 B1
            have nc := lt_of_block C1
            have nd := lt_of_block B1
            clear f1 HC q8 q9
            go_wp2_with (fail)
            have HP := refPlace_ok (HR.out.no (F.trans F1)) (x1, x2)
            rw [HU.out] at HP
            refine HP.mono ?_
            rintro e w2 ⟨rfl, f2⟩
            have B2 := f2.obj B1 id
            clear HP
            go_wp2_with (fail)
            go_ret
            exact ⟨congrArg (fun b => Ending.returned (Value.bool b)) HV9.out.symm, F.trans (F1.trans f2)⟩
          · have hn := Lib.hid hin
            have HNW : Hid (elDot (c.elems.getD i El0) ∉ (c.elems.take i).map elDot) := Lib.hid (by rw [gd hlt]; exact hin)
            clear hin
            have HU : Hid (findEl c.elems (x1, x2) = (i : Int)) := Lib.hid (by have := place_first hlt hn.out; rw [← hx.out] at this; exact this)
            clear hn
            go_wp2_with (fail)
            refine (HC.out _ ((Frm.refl No wr).al _)).mono ?_
            rintro e w1 ⟨rfl, f1⟩
            have C1 := f1.obj (heap_alloc_new wr (.cells #[.int .i64 x1, .int .i64 x2, .int .i64 x3, .string ⟨#[]⟩, .bool true] 59 (0, 0))) id
            have B1 := f1.obj (al_old (o' := (.cells #[.int .i64 x1, .int .i64 x2, .int .i64 x3, .string ⟨#[]⟩, .bool true] 59 (0, 0))) Bk) id
            have F1 : Frm No wr w1 := ((Frm.refl No wr).al _).trans f1
            have c0 := obj_cell C1 0
            have c1 := obj_cell C1 1
            have c2 := obj_cell C1 2
            have c3 := obj_cell C1 3
            have c4 := obj_cell C1 4
            simp at c0 c1 c2 c3 c4
            obtain ⟨p0, p1, p2, p3, p4, p5, p6, p7, p8, p9⟩ := obj10 B1
            have nc := lt_of_block C1
            have nd := lt_of_block B1
            clear f1 HC q8 q9
            go_wp2_with (fail)
            have HP := refPlace_ok (HR.out.no (F.trans F1)) (x1, x2)
            rw [HU.out] at HP
            refine HP.mono ?_
            rintro e w2 ⟨rfl, f2⟩
            have B2 := f2.obj B1 id
            clear HP
            go_wp2_with (fail)
            go_roundg (c.elems.length - (i + 1) + 1)
            case measure => have := hG.out; omega
            case rel => exact ⟨i + 1, by go_num, F.trans (F1.trans f2), by omega, rfl, B2, elsRow_step hP.out HNW.out (by rw [HX.out]; exact HV.out) (by rw [HX.out]; exact HT.out) (by rw [HX.out]; exact HSZ.out) (by rw [HX.out]; exact fun _ => rfl)⟩
        · have HV9 : Hid (B = false) := Lib.hid (by
            rw [hBq.out]
            refine decide_eq_false fun h => ?_
            have h9 := h i hlt
            rw [HX.out] at h9
            exact hz0.out (h9.2.2.2.2 rfl))
          go_wp2_with (fail)
          refine (HC.out _ ((Frm.refl No wr).al _)).mono ?_
          rintro e w1 ⟨rfl, f1⟩
          have C1 := f1.obj (heap_alloc_new wr (.cells #[.int .i64 x1, .int .i64 x2, .int .i64 x3, .string x4, .bool true] 59 (0, 0))) id
          have B1 := f1.obj (al_old (o' := (.cells #[.int .i64 x1, .int .i64 x2, .int .i64 x3, .string x4, .bool true] 59 (0, 0))) Bk) id
          have F1 : Frm No wr w1 := ((Frm.refl No wr).al _).trans f1
          have c0 := obj_cell C1 0
          have c1 := obj_cell C1 1
          have c2 := obj_cell C1 2
          have c3 := obj_cell C1 3
          have c4 := obj_cell C1 4
          simp at c0 c1 c2 c3 c4
          obtain ⟨p0, p1, p2, p3, p4, p5, p6, p7, p8, p9⟩ := obj10 B1
          have nc := lt_of_block C1
          have nd := lt_of_block B1
          clear f1 HC q8 q9
          go_wp2_with (fail)
          go_ret
          exact ⟨congrArg (fun b => Ending.returned (Value.bool b)) HV9.out.symm, F.trans F1⟩
    · have hii : ¬ ((i : Int) < (c.elems.length : Int)) := by omega
      have hv : Hid (B = true) := Lib.hid (by
        rw [hBq.out]
        refine decide_eq_true ?_
        obtain rfl : i = c.elems.length := by omega
        exact hP.out)
      have q8 : wr.cell? ⟨w.heap.size, 8, none⟩ = some (.slice al c.elems.length cl) := obj_cell Bk 8
      go_wp2_with (fail)
      go_ret
      exact ⟨congrArg (fun b => Ending.returned (Value.bool b)) hv.out.symm, F⟩
end Go.Proofs.YtofikfkgiblblaaGreatDoor
/- The reference: may a cell be? -/
namespace Go.Proofs.YtofikfkgiblblaaGreatDoor
open Go.RowKit Go.Lib Go.Tt Go.Shelf
theorem may_bool (k : Int) (U N S E : Prop) [Decidable U] [Decidable N] [Decidable S] [Decidable E] (X1 X2 X3 X4 : Bool) : (decide ((k = 0 ∨ U) ∧ (k = 1 ∨ N) ∧ (k = 2 ∨ S) ∧ (k = 3 ∨ E)) && if k = 0 then X1 else if k = 1 then X2 else if k = 2 then X3 else if k = 3 then X4 else false) = (if k = 0 then (decide N && decide S && decide E && X1) else if k = 1 then (decide U && decide S && decide E && X2) else if k = 2 then (decide U && decide N && decide E && X3) else if k = 3 then (decide U && decide N && decide S && X4) else false) := by
  have hc : k = 0 ∨ k = 1 ∨ k = 2 ∨ k = 3 ∨ (¬ k = 0 ∧ ¬ k = 1 ∧ ¬ k = 2 ∧ ¬ k = 3) := by omega
  by_cases hU : U <;> by_cases hN : N <;> by_cases hS : S <;> by_cases hE : E <;> rcases hc with rfl | rfl | rfl | rfl | ⟨h0, h1, h2, h3⟩ <;> simp [*]
theorem wp_still_drew {P : Program} {id : Nat} {Q : Exit → Act → World → Prop} {a : Act} {w : World} {l : List Oper} (hm : P.follows .mixedOrders = true) (hB : Region.lexB .any l.toArray = true)
    (h : wpStill P l.toArray w.drew (fun a' => Q .normal a' w.drew) l a) : (Code.region id l.toArray true).wp P Q a w := wp_region_still_lit hm hB h
theorem may_eq {c : CellV} {n : Int} (hv : vecMay c.seen n = true) : cellMay c n = (if c.kind = 0 then (decide (c.num.1 = 0 ∧ c.num.2 = 0) && decide (c.ents.length = 0) && decide (c.elems.length = 0) && setMay c n) else if c.kind = 1 then (decide (unsetC c) && decide (c.ents.length = 0) && decide (c.elems.length = 0) && pairMay c.num) else if c.kind = 2 then (decide (unsetC c) && decide (c.num.1 = 0 ∧ c.num.2 = 0) && decide (c.elems.length = 0) && entsMay c) else if c.kind = 3 then (decide (unsetC c) && decide (c.num.1 = 0 ∧ c.num.2 = 0) && decide (c.ents.length = 0) && elsMay c) else false) := by
  unfold cellMay bareC
  rw [hv, Bool.true_and]
  exact may_bool _ _ _ _ _ _ _ _ _
end Go.Proofs.YtofikfkgiblblaaGreatDoor

/- Merged: Drop Del Lend. -/
import Derived.Shelf.Abstract
import Derived.Test.YtgpdpalhkkjmiaaGreatDoorV02
import Derived.Test.YtgpdpalhkkjmiaaGreatDoorV03
import Derived.Test.YtgpdpalhkkjmiaaGreatDoorV06
/- Sets: entries dropped, as the document's answer tells it. -/
namespace Go.Proofs.YtgpdpalhkkjmiaaGreatDoor
set_option linter.unusedVariables false
set_option linter.unusedSimpArgs false
set_option linter.unusedVariables false
set_option linter.unusedSimpArgs false
open Go.RowKit Go.Lib Go.Tt
/-- What a drop leaves. -/
def dropped (l : List En) (ds : List Dt) : List En := l.filter fun e => decide ((e.1, e.2.1) ∉ ds)
theorem dropped_len (l : List En) (ds : List Dt) : (dropped l ds).length ≤ l.length := List.length_filter_le _ _
theorem dropped_step {l : List En} {ds : List Dt} {i : Nat} {x : En} (h : i < l.length) (hx : Hid (x = l[i])) : dropped (l.take (i + 1)) ds = dropped (l.take i) ds ++ if (x.1, x.2.1) ∈ ds then [] else [x] := by
  rw [List.take_succ_eq_append_getElem h, ← hx.out]
  unfold dropped
  rw [List.filter_append]
  by_cases hv : (x.1, x.2.1) ∈ ds <;> simp [hv]
set_option maxHeartbeats 1000000 in
set_option maxRecDepth 100000 in
theorem refDrop_ok {w : World} {c : CellV} {ve vl vs : Value} (h : CellR w c ve vl vs) (hb : CellB c) (hk : c.kind = 2) {ad : Option Addr} {nd cd : Nat} {ds : List Dt} (hd : RdS w eDt (.slice ad nd cd) ds) :
    Calls Tryz.prog 34 #[cval c ve vl vs, .slice ad nd cd] w fun e w' => ∃ ve' vl' vs', e = .returned (.tuple #[cval { c with ents := dropped c.ents ds } ve' vl' vs', .int .i64 0]) ∧ CellO w' (Nw No w w') { c with ents := dropped c.ents ds } ve' vl' vs' ∧ Frm No w w' := by
  obtain ⟨he, hl, hs⟩ := h
  have HR := Lib.hid (⟨he, hl, hs⟩ : CellR w c ve vl vs)
  obtain ⟨ae, ce, rfl⟩ := he.sh
  obtain ⟨al, cl, rfl⟩ := hl.sh
  obtain ⟨at_, cs, rfl⟩ := hs.sh
  have hcv : cval c (.slice ae c.ents.length ce) (.slice al c.elems.length cl) (.slice at_ c.seen.length cs) = .agg #[.int .i64 2, .bool c.set, .int .i64 c.st.1, .int .i64 c.st.2, .string c.value, .int .i64 c.num.1, .int .i64 c.num.2, .slice ae c.ents.length ce, .slice al c.elems.length cl, .slice at_ c.seen.length cs] := by unfold cval; rw [hk]
  rw [hcv]
  have HV := Lib.hid hcv
  have HK := Lib.hid hk
  have HE := Lib.hid he
  have HD := Lib.hid hd
  have HB := Lib.hid hb
  have hb1 : c.ents.length * 32 ≤ 140737488351232 := hb.e
  clear he hl hs hb hd hk hcv
  go_enter Tryz.func34, Tryz.ntmps34
  go_wp2
  go_loopg [6, 7] (c.ents.length + 1) (fun g ov iv wr => ∃ (i : Nat) (ao : Option Addr) (no co : Nat), iv = .int .i64 i ∧ ov = .slice ao no co ∧ i ≤ c.ents.length ∧ g = c.ents.length - i + 1 ∧ Frm No w wr ∧
    wr.heap[w.heap.size]? = some (.cells #[.int .i64 2, .bool c.set, .int .i64 c.st.1, .int .i64 c.st.2, .string c.value, .int .i64 c.num.1, .int .i64 c.num.2, .slice ae c.ents.length ce, .slice al c.elems.length cl, .slice at_ c.seen.length cs] 75 (0, 0)) ∧
    wr.heap[w.heap.size + 1]? = some (.cells #[.int .i64 0, .bool false, .int .i64 0, .int .i64 0, .string ⟨#[]⟩, .int .i64 0, .int .i64 0, .slice none 0 0, .slice none 0 0, .slice none 0 0] 75 (0, 0)) ∧
    Ow wr (fun k => w.heap.size + 2 ≤ k) 98 eEn (.slice ao no co) (dropped (c.ents.take i) ds))
  case atStart => exact ⟨0, none, 0, 0, rfl, rfl, Nat.zero_le _, by omega, ((Frm.refl No w).al _).al _, al_old (heap_alloc_new w _), al_at (by simp), Ow.nil _ _ _ _ _⟩
  case round =>
    obtain ⟨i, ao, no, co, rfl, rfl, hi, hg, F, B, C, O⟩ := hrel
    have hG := Lib.hid hg
    have n1 : w.heap.size < wr.heap.size := lt_of_block B
    have n2 : w.heap.size + 1 < wr.heap.size := lt_of_block C
    clear hg
    by_cases hlt : i < c.ents.length
    · have q7 : wr.cell? ⟨w.heap.size, 7, none⟩ = some (.slice ae c.ents.length ce) := obj_cell B 7
      obtain ⟨b, off, rfl, hbl, hc⟩ := (HE.out.no F).at hlt
      have e0 : wr.cell? ⟨b, off + i * 3, none⟩ = some (.int .i64 c.ents[i].1) := hc 0 _ rfl
      have e1 : wr.cell? ⟨b, off + i * 3 + 1, none⟩ = some (.int .i64 c.ents[i].2.1) := hc 1 _ rfl
      have e2 : wr.cell? ⟨b, off + i * 3 + 2, none⟩ = some (.string c.ents[i].2.2) := hc 2 _ rfl
      clear hc
      obtain ⟨x, hx⟩ : ∃ x, Hid (x = c.ents[i]) := ⟨_, Lib.hid rfl⟩
      rw [← hx.out] at e0 e1 e2
      have hno := O.cap.1
      have hle : (dropped (c.ents.take i) ds).length ≤ i := Nat.le_trans (dropped_len _ ds) (by rw [List.length_take]; omega)
      have HN := Lib.hid hno
      have hle' : no ≤ i := by omega
      clear hno hle
      go_wp2_with (fail)
      by_cases hm : (x.1, x.2.1) ∈ ds
      · have hA := among_ok (HD.out.no F) (x.1, x.2.1)
        rw [decide_eq_true hm] at hA
        refine hA.mono ?_
        rintro e w2 ⟨rfl, f2⟩
        clear hA
        go_wp2
        go_roundg (c.ents.length - (i + 1) + 1)
        case measure => have := hG.out; omega
        case rel =>
          have hs := dropped_step (ds := ds) hlt hx
          rw [if_pos hm, List.append_nil] at hs
          exact ⟨i + 1, ao, no, co, by go_num, rfl, by omega, rfl, F.next f2, f2.obj B id, f2.obj C id, by rw [hs]; exact O.no f2⟩
      · have hA := among_ok (HD.out.no F) (x.1, x.2.1)
        rw [decide_eq_false hm] at hA
        refine hA.mono ?_
        rintro e w2 ⟨rfl, f2⟩
        clear hA
        have B2 := f2.obj B id
        have n21 : w.heap.size < w2.heap.size := lt_of_block B2
        have q27 : w2.cell? ⟨w.heap.size, 7, none⟩ = some (.slice (some ⟨b, off, none⟩) c.ents.length ce) := obj_cell B2 7
        have e20 : w2.cell? ⟨b, off + i * 3, none⟩ = some (.int .i64 x.1) := (f2.cell (World.block_lt_of_cell? _ _ e0) id).trans e0
        have e21 : w2.cell? ⟨b, off + i * 3 + 1, none⟩ = some (.int .i64 x.2.1) := (f2.cell (World.block_lt_of_cell? _ _ e1) id).trans e1
        have e22 : w2.cell? ⟨b, off + i * 3 + 2, none⟩ = some (.string x.2.2) := (f2.cell (World.block_lt_of_cell? _ _ e2) id).trans e2
        clear q7 e0 e1 e2
        go_wp2_with (at_builtin; refine wpList_ap _ rfl (.tmp 28) (.tmp 34) 72 72 rfl 98 _ 32 Tryz.underlying72 i_en rfl ((O.no f2).al _) ((RdS.litg _ eEn x _ (g := w2.heap.size) rfl).src Tryz.underlying72) rfl rfl rfl ?c1 ?c2 ?_)
        case c1 => rw [← HN.out]; unfold maxLen; omega
        case c2 => rw [← HN.out]; omega
        intro a' c' w3 o3 f3
        have hf3 : ∀ k, k < w2.heap.size → k < w.heap.size + 2 → ¬ (w.heap.size + 2 ≤ k) := fun k _ h => by omega
        have B3 := f3.obj (al_old B2) (by omega)
        have C3 := f3.obj (al_old (f2.obj C id)) (by omega)
        have F3 : Frm No w w3 := ((F.next f2).al _).then f3 fun k hk hh => by omega
        rw [← HN.out] at o3
        go_wp2
        go_roundg (c.ents.length - (i + 1) + 1)
        case measure => have := hG.out; omega
        case rel =>
          have hs := dropped_step (ds := ds) hlt hx
          rw [if_neg hm] at hs
          exact ⟨i + 1, a', no + 1, c', by go_num, by rw [HN.out], by omega, rfl, F3, B3, C3, by rw [hs]; exact o3.mono fun k _ hh => by rcases hh with hh | hh; exact hh; have := hh.1; simp at this; omega⟩
    · have hii : ¬ ((i : Int) < c.ents.length) := by omega
      obtain ⟨q0, q1, q2, q3, q4, q5, q6, q7, q8, q9⟩ := obj10 B
      have hcp := refCopy_ok (HR.out.no F) HB.out
      rw [HV.out] at hcp
      go_wp2_with (fail)
      refine hcp.mono ?_
      rintro e w2 ⟨ve', vl', vs', rfl, o2, f2⟩
      obtain ⟨a1, c1, rfl⟩ := o2.e.sh
      obtain ⟨a2, c2, rfl⟩ := o2.l.sh
      obtain ⟨a3, c3, rfl⟩ := o2.s.sh
      rw [show cval c (.slice a1 c.ents.length c1) (.slice a2 c.elems.length c2) (.slice a3 c.seen.length c3) = .agg #[.int .i64 2, .bool c.set, .int .i64 c.st.1, .int .i64 c.st.2, .string c.value, .int .i64 c.num.1, .int .i64 c.num.2, .slice a1 c.ents.length c1, .slice a2 c.elems.length c2, .slice a3 c.seen.length c3] by unfold cval; rw [HK.out]]
      have F2 := F.next f2
      have B2 := f2.obj B id
      have C2 := f2.obj C id
      replace O := O.no f2
      have htk : c.ents.take i = c.ents := List.take_of_length_le (by omega)
      rw [htk] at O
      have hw2 : w.heap.size + 2 ≤ wr.heap.size := by omega
      clear hcp q0 q1 q2 q3 q4 q5 q6 q7 q8 q9 B C F f2 n1 n2 htk hii
      have hone : ∀ (v1 v2 v3 : Value), v1.oneCell' = true → v2.oneCell' = true → v3.oneCell' = true → ∀ u ∈ [Value.int .i64 2, .bool c.set, .int .i64 c.st.1, .int .i64 c.st.2, .string c.value, .int .i64 c.num.1, .int .i64 c.num.2, v1, v2, v3], u.oneCell' = true := by
        intro v1 v2 v3 h1 h2 h3 u hu
        simp only [List.mem_cons, List.not_mem_nil, or_false] at hu
        rcases hu with rfl | rfl | rfl | rfl | rfl | rfl | rfl | rfl | rfl | rfl <;> first | rfl | assumption
      go_wp2_with (refine wpList_sto _ rfl (.tmp 2) (.tmp 37) 75 rfl B2 (by kernel_rfl) (by rfl) (hone (.slice a1 c.ents.length c1) (.slice a2 c.elems.length c2) (.slice a3 c.seen.length c3) rfl rfl rfl) rfl rfl ?_)
      intro w3 B3 f3 z3
      have C3 := f3.obj C2 (by omega)
      have n3 : w.heap.size < w3.heap.size := lt_of_block B3
      obtain ⟨q0, q1, q2, q3, q4, q5, q6, q7, q8, q9⟩ := obj10 B3
      have r3 := obj_frz B3
      go_wp2_with (refine wpList_sto _ rfl (.tmp 4) (.tmp 40) 75 rfl (obj_setCell_ne C3 (by omega) (.slice ao no co)) (by kernel_rfl) (by rfl) (hone (.slice ao no co) (.slice a2 c.elems.length c2) (.slice a3 c.seen.length c3) rfl rfl rfl) rfl rfl ?_)
      intro w4 C4 f4 z4
      obtain ⟨p0, p1, p2, p3, p4, p5, p6, p7, p8, p9⟩ := obj10 C4
      clear q0 q1 q2 q3 q4 q5 q6 q7 q8 q9 r3
      go_wp2
      refine bodyPost_ret (v := .tuple #[.agg #[.int .i64 2, .bool c.set, .int .i64 c.st.1, .int .i64 c.st.2, .string c.value, .int .i64 c.num.1, .int .i64 c.num.2, .slice ao no co, .slice a2 c.elems.length c2, .slice a3 c.seen.length c3], .int .i64 0]) (by simp [results, Tryz.results34, go_sem, *]) rfl ?_
      have G : Frm (fun k => w.heap.size ≤ k ∧ k < w.heap.size + 2) w2 w4 := ((f3.mono fun k _ hk => by omega).trans (Frm.setCell (F := fun k => w.heap.size ≤ k ∧ k < w.heap.size + 2) w3 ⟨w.heap.size, 7, none⟩ (.slice ao no co) (by show w.heap.size ≤ w.heap.size ∧ w.heap.size < w.heap.size + 2; omega))).trans (f4.mono fun k _ hk => by omega)
      have hG2 : ∀ k, w.heap.size + 2 ≤ k → ¬ (w.heap.size ≤ k ∧ k < w.heap.size + 2) := fun k h => by omega
      have o2' := o2.mono (G := fun k => w.heap.size + 2 ≤ k) fun k hk hh => by rcases hh with hh | hh; exact hh.elim; exact Nat.le_trans hw2 hh.1
      refine ⟨_, _, _, ?_, ⟨(O.frm G hG2).fin (by omega), (o2'.l.frm G hG2).fin (by omega), (o2'.s.frm G hG2).fin (by omega)⟩, F2.then G fun k hk hh => by have := hh.1; omega⟩
      unfold cval
      dsimp only
      rw [HK.out]
end Go.Proofs.YtgpdpalhkkjmiaaGreatDoor

/- Sets: slices.Contains at dots, slices.DeleteFunc at entries. -/
namespace Go.Proofs.YtgpdpalhkkjmiaaGreatDoor
set_option linter.unusedVariables false
set_option linter.unusedSimpArgs false
open Go.RowKit Go.Lib Go.Tt
set_option maxRecDepth 100000 in
theorem indexDot_ok {w : World} {a : Option Addr} {n c : Nat} {l : List Dt} (h : RdS w eDt (.slice a n c) l) (d : Dt) :
    Calls Tryz.prog 136 #[.slice a n c, .agg #[.int .i64 d.1, .int .i64 d.2]] w fun e w' => ∃ z : Int, e = .returned (.int .i64 z) ∧ (0 ≤ z ↔ d ∈ l) ∧ Frm No w w' := by
  obtain ⟨hn, hc1, hc2, -⟩ := h.facts
  unfold maxLen at hc2
  have HN := Lib.hid hn
  clear hn
  go_enter Tryz.func136, Tryz.ntmps136
  go_wp2
  go_loopg [5, 8] (n + 1) (fun g _ iv wr => ∃ (i m : Nat), iv = .int .i64 i ∧ wr = (w.alloc (.cells #[.int .i64 d.1, .int .i64 d.2] 83)).drewN m ∧ i ≤ n ∧ g = n - i + 1 ∧ d ∉ l.take i)
  case atStart => exact ⟨0, 0, rfl, rfl, Nat.zero_le _, by omega, by simp⟩
  case round =>
    obtain ⟨i, m, rfl, rfl, hi, hg, hp⟩ := hrel
    have hG := Lib.hid hg
    have hP := Lib.hid hp
    clear hg hp
    by_cases hlt : i < n
    · have l1 : i < l.length := by rw [← HN.out]; exact hlt
      obtain ⟨b, off, rfl, hb, hc⟩ := h.at l1
      have e0 : w.cell? ⟨b, off + i * 2, none⟩ = some (.int .i64 l[i].1) := hc 0 _ rfl
      have e1 : w.cell? ⟨b, off + i * 2 + 1, none⟩ = some (.int .i64 l[i].2) := hc 1 _ rfl
      clear hc h
      obtain ⟨x, hx⟩ : ∃ x, Hid (x = l[i]) := ⟨_, Lib.hid rfl⟩
      rw [← hx.out] at e0 e1
      have hcs : (x = d ∧ x.1 = d.1 ∧ x.2 = d.2) ∨ (x ≠ d ∧ x.1 = d.1 ∧ ¬ d.2 = x.2) ∨ (x ≠ d ∧ ¬ d.1 = x.1) := by
        by_cases h1 : x.1 = d.1
        · by_cases h2 : x.2 = d.2
          · exact .inl ⟨Prod.ext h1 h2, h1, h2⟩
          · exact .inr (.inl ⟨fun e => h2 (by rw [e]), h1, fun e => h2 e.symm⟩)
        · exact .inr (.inr ⟨fun e => h1 (by rw [e]), fun e => h1 e.symm⟩)
      rcases hcs with ⟨hxd, h1, h2⟩ | ⟨hxd, h1, h2⟩ | ⟨hxd, h1⟩
      · rw [h1] at e0
        rw [h2] at e1
        have HX := Lib.hid hxd
        clear hxd h1 h2
        go_wp2
        refine wp_region_plan [([0, 1, 2, 3, 4, 5], [])] 19 (by kernel_rfl) (by kernel_rfl) (by simp) ?_
        intro N hN
        simp only [wpSegs, List.map_cons, List.map_nil, List.getD_cons_zero, List.getD_cons_succ]
        go_wp2
        go_ret
        have hd : d ∈ l := by rw [← HX.out, hx.out]; exact List.getElem_mem l1
        exact ⟨(i : Int), rfl, ⟨fun _ => hd, fun _ => by omega⟩, ((Frm.refl No w).al _).dr _⟩
      · rw [h1] at e0
        have HX := Lib.hid hxd
        clear hxd h1
        go_wp2
        refine wp_region_plan [([0, 1, 2, 3, 4, 5], [])] 19 (by kernel_rfl) (by kernel_rfl) (by simp) ?_
        intro N hN
        simp only [wpSegs, List.map_cons, List.map_nil, List.getD_cons_zero, List.getD_cons_succ]
        go_wp2
        go_roundg (n - (i + 1) + 1)
        case measure => have := hG.out; omega
        case rel => exact ⟨i + 1, _, by go_num, rfl, by omega, rfl, mem_step l1 hP.out hx HX.out⟩
      · have HX := Lib.hid hxd
        clear hxd
        go_wp2
        refine wp_region_plan [([0, 1, 2, 3, 4, 5], [])] 19 (by kernel_rfl) (by kernel_rfl) (by simp) ?_
        intro N hN
        simp only [wpSegs, List.map_cons, List.map_nil, List.getD_cons_zero, List.getD_cons_succ]
        go_wp2
        go_roundg (n - (i + 1) + 1)
        case measure => have := hG.out; omega
        case rel => exact ⟨i + 1, _, by go_num, rfl, by omega, rfl, mem_step l1 hP.out hx HX.out⟩
    · have hii : ¬ ((i : Int) < n) := by omega
      go_wp2
      go_ret
      have hP := hP.out
      rw [List.take_of_length_le (by have := HN.out; omega)] at hP
      exact ⟨-1, rfl, ⟨fun h => by omega, fun h => absurd h hP⟩, ((Frm.refl No w).al _).dr _⟩
set_option maxRecDepth 100000 in
theorem containsDot_ok {w : World} {a : Option Addr} {n c : Nat} {l : List Dt} (h : RdS w eDt (.slice a n c) l) (d : Dt) :
    Calls Tryz.prog 95 #[.slice a n c, .agg #[.int .i64 d.1, .int .i64 d.2]] w fun e w' => e = .returned (.bool (decide (d ∈ l))) ∧ Frm No w w' := by
  have hc := fun W (f : Frm No w W) => indexDot_ok (h.no f) d
  clear h
  go_enter Tryz.func95, Tryz.ntmps95
  go_wp2_with (fail)
  refine (hc _ ((Frm.refl No w).al _)).mono ?_
  rintro e w1 ⟨z, rfl, hz, f1⟩
  have hZ := Lib.hid hz
  clear hz hc
  go_wp2
  all_goals go_ret
  all_goals refine ⟨congrArg (fun b => Ending.returned (Value.bool b)) ?_, ((Frm.refl No w).al _).trans f1⟩
  all_goals first
    | exact decide_eq_decide.2 hZ.out
    | exact dec_t (hZ.out.1 (by omega))
    | exact dec_f fun h => by have := hZ.out.2 h; omega
set_option maxRecDepth 100000 in
theorem drop1_ok {w : World} {B : Nat} {a : Option Addr} {n c : Nat} {ds : List Dt} (hd : RdS w eDt (.slice a n c) ds) (hB : w.heap[B]? = some (.cells #[.slice a n c] 76 (0, 0))) (x : En) :
    Calls Tryz.prog 94 #[.agg #[.int .i64 x.1, .int .i64 x.2.1, .string x.2.2], .pointer (some ⟨B, 0, none⟩)] w fun e w' => e = .returned (.bool (decide ((x.1, x.2.1) ∈ ds))) ∧ Frm No w w' := by
  have d0 : w.cell? ⟨B, 0, none⟩ = some (.slice a n c) := obj_cell hB 0
  have hlt := lt_of_block hB
  have hc := fun W (f : Frm No w W) => containsDot_ok (hd.no f) (x.1, x.2.1)
  clear hd
  obtain ⟨r, hr⟩ : ∃ r, Hid (r = decide ((x.1, x.2.1) ∈ ds)) := ⟨_, Lib.hid rfl⟩
  rw [← hr.out] at hc ⊢
  go_enter Tryz.func94, Tryz.ntmps94
  go_wp2_with (fail)
  refine (hc _ ((Frm.refl No w).al _)).mono ?_
  rintro e w1 ⟨rfl, f1⟩
  clear hc
  go_wp2
  go_ret
  exact ⟨rfl, ((Frm.refl No w).al _).trans f1⟩
/-- A function value that tells p of an entry, whatever the footprint F bears. -/
def PredF (F : Nat → Prop) (w : World) (g : Nat) (lb : Array Value) (p : En → Bool) : Prop :=
  ∀ (W : World) (x : En), Frm F w W → Calls Tryz.prog g (#[.agg #[.int .i64 x.1, .int .i64 x.2.1, .string x.2.2]] ++ lb) W fun e w' => e = .returned (.bool (p x)) ∧ Frm No W w'
theorem filter_step {l : List En} {p : En → Bool} {i : Nat} {x : En} (h : i < l.length) (hx : Hid (x = l[i])) : (l.take (i + 1)).filter p = (l.take i).filter p ++ if p x then [x] else [] := by
  rw [List.take_succ_eq_append_getElem h, ← hx.out, List.filter_append]
  by_cases hv : p x = true <;> simp [hv]
/-- What stays behind the first that goes. -/
theorem filter_first {l : List En} {p : En → Bool} (h : l.findIdx p < l.length) : (l.take (l.findIdx p + 1)).filter (fun x => !p x) = l.take (l.findIdx p) := by
  have hx : Hid (l[l.findIdx p] = l[l.findIdx p]) := Lib.hid rfl
  rw [filter_step h hx, List.findIdx_getElem (w := h)]
  simp only [Bool.not_true, Bool.false_eq_true, if_false, List.append_nil]
  rw [List.filter_eq_self]
  intro x hx
  obtain ⟨j, hj, rfl⟩ := List.getElem_of_mem hx
  rw [List.length_take] at hj
  rw [List.getElem_take]
  have := List.not_of_lt_findIdx (p := p) (xs := l) (i := j) (by omega)
  simpa using this
theorem idxF_none {l : List En} {p : En → Bool} (h : ¬ l.findIdx p < l.length) : l.filter (fun x => !p x) = l := by
  rw [List.filter_eq_self]
  intro x hx
  have h' : ¬ ∃ x ∈ l, p x = true := fun e => h (List.findIdx_lt_length.2 e)
  cases hq : p x with
  | true => exact absurd ⟨x, hx, hq⟩ h'
  | false => rfl
set_option maxHeartbeats 1000000 in
set_option maxRecDepth 100000 in
theorem delFunc_ok {w : World} {F : Nat → Prop} {a : Option Addr} {n c : Nat} {l : List En} (h : Ow w F 98 eEn (.slice a n c) l) {g : Nat} {lb : Array Value} {p : En → Bool} (hp : PredF F w g lb p)
    (eg : ∀ args w, (callFunc g args).run Tryz.prog w = .ok (.enter g args) w) :
    Calls Tryz.prog 93 #[.slice a n c, .func (.func g) #[] lb] w fun e w' => ∃ n', e = .returned (.slice a n' c) ∧ Ow w' F 98 eEn (.slice a n' c) (l.filter fun x => !p x) ∧ Frm F w w' := by
  have HI := indexFunc_ok h.rd (p := p) (g := g) (lb := lb) (fun W x f => hp W x (f.mono fun _ _ h => h.elim)) eg
  obtain ⟨hn, hnc, hcm, -⟩ := h.rd.facts
  unfold maxLen at hcm
  have HP := Lib.hid hp
  clear hp
  by_cases hfi : l.findIdx p < l.length
  · obtain ⟨b, row, rfl, hB, hF, -, -, -, hrs, htk⟩ := h.cases (by omega)
    have hq : idxF l p = (l.findIdx p : Int) := by unfold idxF; rw [if_pos hfi]
    have HFF := Lib.hid (filter_first hfi)
    rw [hq] at HI
    obtain ⟨k, hk⟩ : ∃ k, Hid (k = l.findIdx p) := ⟨_, Lib.hid rfl⟩
    rw [← hk.out] at HI hfi HFF
    have hkn : k < n := by omega
    have HN := Lib.hid hn
    have HT := Lib.hid htk
    have hRow : row.size = c * 3 := hrs
    clear hq htk hrs hn
    go_enter Tryz.func93, Tryz.ntmps93
    go_wp2_with (fail)
    refine HI.mono ?_
    rintro e w1 ⟨rfl, f1⟩
    have B1 := f1.obj hB id
    clear HI
    go_wp2
    go_loopg [5, 6] (n - (k + 1) + 1) (fun gg iv jv wr => ∃ (i j : Nat) (row : Array Value), iv = .int .i64 i ∧ jv = .int .i64 j ∧ i < j ∧ j ≤ n ∧ gg = n - j + 1 ∧ Frm F w wr ∧
      wr.heap[b]? = some (.cells row 98 (0, 0)) ∧ row.size = c * 3 ∧ ((l.take j).filter fun x => !p x).length = i ∧ row.toList.take (i * 3) = eEn.flat ((l.take j).filter fun x => !p x) ∧
      ∀ m, j * 3 ≤ m → m < n * 3 → row.toList[m]? = (eEn.flat l)[m]?)
    case atStart =>
      refine ⟨k, k + 1, row, rfl, by go_num, by omega, by omega, rfl, f1.mono fun _ _ h => h.elim, B1, hRow, ?_, ?_, ?_⟩
      · rw [HFF.out, List.length_take]; omega
      · rw [HFF.out, ← eEn.flat_take, ← HT.out, List.take_take, Nat.min_eq_left (Nat.mul_le_mul_right _ (by omega))]; rfl
      · intro m _ hm
        rw [← HT.out, List.getElem?_take, if_pos (by rw [← HN.out]; exact hm)]
    case round =>
      clear B1 f1
      obtain ⟨i, j, row', rfl, rfl, hij, hjn, hg, f, B, hr', h1, h2, h3⟩ := hrel
      have hG := Lib.hid hg
      have H1 := Lib.hid h1
      have H2 := Lib.hid h2
      have H3 := Lib.hid h3
      have n1 := lt_of_block B
      clear hg h1 h2 h3
      by_cases hlt : j < n
      · have l1 : j < l.length := by rw [← HN.out]; exact hlt
        have hc : ∀ r u, (eEn.f l[j])[r]? = some u → wr.cell? ⟨b, j * 3 + r, none⟩ = some u := by
          intro r u hu
          have hr : r < 3 := by have := (List.getElem?_eq_some_iff.1 hu).1; rwa [eEn.len] at this
          rw [obj_cell B, ← Array.getElem?_toList, H3.out _ (by omega) (by omega)]
          exact (eEn.flat_get l1 hr).trans hu
        have e0 : wr.cell? ⟨b, j * 3, none⟩ = some (.int .i64 l[j].1) := hc 0 _ rfl
        have e1 : wr.cell? ⟨b, j * 3 + 1, none⟩ = some (.int .i64 l[j].2.1) := hc 1 _ rfl
        have e2 : wr.cell? ⟨b, j * 3 + 2, none⟩ = some (.string l[j].2.2) := hc 2 _ rfl
        clear hc
        obtain ⟨x, hx⟩ : ∃ x, Hid (x = l[j]) := ⟨_, Lib.hid rfl⟩
        rw [← hx.out] at e0 e1 e2
        have hst := filter_step (p := fun x => !p x) l1 hx
        have hcall := fun W (f : Frm F w W) => HP.out W x f
        cases hq : p x with
        | true =>
          simp only [hq] at hcall hst
          have HST := Lib.hid hst
          clear hst hq
          go_wp2_with (fail)
          refine (hcall _ ?_).mono ?_
          · exact f.al _
          rintro e w2 ⟨rfl, f2⟩
          have F2 : Frm F w w2 := (f.al _).then f2 fun _ _ h => h.elim
          have B2 := f2.obj (al_old B) id
          clear hcall e0 e1 e2
          go_wp2
          go_roundg (n - (j + 1) + 1)
          case measure => have := hG.out; omega
          case rel =>
            have hs := HST.out
            simp only [Bool.not_true, Bool.false_eq_true, if_false, List.append_nil] at hs
            exact ⟨i, j + 1, row', rfl, by go_num, by omega, by omega, rfl, F2, B2, hr', by rw [hs]; exact H1.out, by rw [hs]; exact H2.out, fun m h1 h2 => H3.out m (by omega) h2⟩
        | false =>
          simp only [hq] at hcall hst
          have HST := Lib.hid hst
          clear hst hq
          go_wp2_with (fail)
          refine (hcall _ ?_).mono ?_
          · exact f.al _
          rintro e w2 ⟨rfl, f2⟩
          have F2 : Frm F w w2 := (f.al _).then f2 fun _ _ h => h.elim
          have B2 := f2.obj (al_old B) id
          have V2 : w2.heap[wr.heap.size]? = some (.cells #[.int .i64 x.1, .int .i64 x.2.1, .string x.2.2] 98 (0, 0)) := f2.obj (heap_alloc_new wr _) id
          have v0 : w2.cell? ⟨wr.heap.size, 0, none⟩ = some (.int .i64 x.1) := obj_cell V2 0
          have v1 : w2.cell? ⟨wr.heap.size, 1, none⟩ = some (.int .i64 x.2.1) := obj_cell V2 1
          have v2 : w2.cell? ⟨wr.heap.size, 2, none⟩ = some (.string x.2.2) := obj_cell V2 2
          have hfit : (i + 1) * 3 ≤ row'.toList.length := by rw [show row'.toList.length = row'.size from Array.length_toList]; omega
          have HA := Lib.hid (row_app (E := eEn) (x := x) H1.out H2.out hfit)
          have HI := Lib.hid hfit
          clear hcall e0 e1 e2 hfit
          go_wp2_with (refine wpList_stoAt _ rfl (.tmp 33) (.tmp 32) 98 rfl B2 (vs := [.int .i64 x.1, .int .i64 x.2.1, .string x.2.2]) (by kernel_rfl) ?d1 (eEn.one x) rfl rfl ?_)
          case d1 => show i * 3 + 3 ≤ row'.size; omega
          intro w3 B3 f3 z3
          have F3 : Frm F w w3 := F2.trans (f3.mono fun k _ e => e ▸ hF)
          clear v0 v1 v2
          go_wp2
          go_roundg (n - (j + 1) + 1)
          case measure => have := hG.out; omega
          case rel =>
            have hs := HST.out
            simp only [Bool.not_false, if_true] at hs
            refine ⟨i + 1, j + 1, _, by go_num, by go_num, by omega, by omega, rfl, F3, B3, ?_, by rw [hs, List.length_append, H1.out]; rfl, by rw [hs]; exact HA.out.1, fun m h1 h2 => ?_⟩
            · rw [List.size_toArray, rowPut_len _ _ _ (by show i * 3 + 3 ≤ _; have := HI.out; omega), show row'.toList.length = row'.size from Array.length_toList]; exact hr'
            · exact (HA.out.2 m (by show (i + 1) * 3 ≤ m; omega)).trans (H3.out m (by omega) h2)
      · have hjj : ¬ ((j : Int) < n) := by omega
        obtain rfl : j = n := by omega
        have hci : ¬ (c = i) := by omega
        have hb3 : (i : Int) ≤ (j : Int) := by omega
        have hzs : (Builtin.zeroCells (Value.agg #[.int .i64 0, .int .i64 0, .string ByteArray.empty]).cells (j - i)).size = (j - i) * 3 := size_zeroCells _ _
        have hone : ∀ v ∈ (Builtin.zeroCells (Value.agg #[.int .i64 0, .int .i64 0, .string ByteArray.empty]).cells (j - i)).toList, v.oneCell' = true := by
          intro v hv
          simp only [Builtin.zeroCells, Array.toList_map, List.mem_map] at hv
          obtain ⟨m, -, rfl⟩ := hv
          have h3 : m % (Value.agg #[.int .i64 0, .int .i64 0, .string ByteArray.empty]).cells.size < 3 := Nat.mod_lt _ (by decide)
          generalize m % (Value.agg #[.int .i64 0, .int .i64 0, .string ByteArray.empty]).cells.size = q at h3
          match q, h3 with
          | 0, _ => rfl
          | 1, _ => rfl
          | 2, _ => rfl
        have HO := Lib.hid hone
        have HZ := Lib.hid hzs
        clear hzs hone
        go_wp2_with (refine wpList_clr _ rfl (.tmp 38) 72 98 rfl Tryz.underlying72 Tryz.zeroValue98 HO.out (by omega) B ?d1 rfl ?_)
        case d1 =>
          have h := HZ.out
          simp only [Value.cells] at h
          have e : (ByteArray.empty) = { data := #[] } := rfl
          rw [e] at h
          rw [h]; omega
        intro w3 B3 f3 z3
        have F3 : Frm F w w3 := f.trans (f3.mono fun k _ e => e ▸ hF)
        go_wp2
        go_ret
        have hl : l.take j = l := List.take_of_length_le (by have := HN.out; omega)
        have h1 := H1.out
        have h2 := H2.out
        rw [hl] at h1 h2
        have hfit : i * 3 + (Builtin.zeroCells (Value.agg #[.int .i64 0, .int .i64 0, .string ByteArray.empty]).cells (j - i)).toList.length ≤ row'.toList.length := by
          rw [Array.length_toList, HZ.out, show row'.toList.length = row'.size from Array.length_toList]; omega
        have o3 : Ow w3 F 98 eEn (.slice (some ⟨b, 0, none⟩) (l.filter fun x => !p x).length c) (l.filter fun x => !p x) :=
          Ow.row B3 hF (by omega) (by unfold maxLen; omega) (by
            rw [List.size_toArray]
            exact (rowPut_len _ _ _ hfit).trans ((show row'.toList.length = row'.size from Array.length_toList).trans hr')) (by
            rw [h1, ← h2]
            exact row_keep hfit (Nat.le_refl _))
        rw [h1] at o3
        exact ⟨i, rfl, o3, F3⟩
  · have hq : idxF l p = -1 := by unfold idxF; rw [if_neg hfi]
    have HFF := Lib.hid (idxF_none hfi)
    rw [hq] at HI
    clear hq hfi hn hnc hcm
    go_enter Tryz.func93, Tryz.ntmps93
    go_wp2_with (fail)
    refine HI.mono ?_
    rintro e w1 ⟨rfl, f1⟩
    go_wp2
    go_ret
    rw [HFF.out]
    exact ⟨n, rfl, h.no f1, f1.mono fun _ _ h => h.elim⟩
end Go.Proofs.YtgpdpalhkkjmiaaGreatDoor

/- Dots lent in a place with marked room behind them; spoilt; kept. -/
namespace Go.Proofs.YtgpdpalhkkjmiaaGreatDoor
set_option linter.unusedVariables false
set_option linter.unusedSimpArgs false
open Go.RowKit Go.Lib Go.Tt
/-- A literal of some elements. -/
theorem RdS_lits {α : Type} (w : World) (E : Enc α) (l : List α) (t : TypeId) {g n : Nat} (hg : g = w.heap.size) (hn : n = l.length) (hm : l.length ≤ maxLen) : RdS (w.alloc (.cells (E.flat l).toArray t)) E (.slice (some ⟨g, 0, none⟩) n n) l := by
  subst hg hn
  refine ⟨_, l.length, rfl, Nat.le_refl _, hm, (by intro h; cases h), fun _ => ⟨w.heap.size, 0, rfl, fun m u hu => ?_⟩⟩
  rw [Nat.zero_add, World.cell?_alloc_new]
  simpa using hu
def mark : Dt := (0, 77777)
/-- The first elements of a slice that reads, its capacity kept. -/
theorem RdS_pre {α : Type} {w : World} {E : Enc α} {a : Option Addr} {m n c : Nat} {l l2 : List α} (h : RdS w E (.slice a m c) (l ++ l2)) (hn : n = l.length) : RdS w E (.slice a n c) l := by
  obtain ⟨a', c', h1, h2, h3, h4, h5⟩ := h
  simp only [Value.slice.injEq] at h1
  obtain ⟨rfl, rfl, rfl⟩ := h1
  rw [List.length_append] at h2 h4 h5
  subst hn
  refine ⟨_, _, rfl, by omega, h3, fun e => ⟨by have := (h4 e).1; omega, (h4 e).2⟩, fun hl => ?_⟩
  obtain ⟨b, off, ha, hc⟩ := h5 (by omega)
  refine ⟨b, off, ha, fun m u hu => hc m u ?_⟩
  rw [E.flat_append, List.getElem?_append_left (List.getElem?_eq_some_iff.1 hu).1]
  exact hu
end Go.Proofs.YtgpdpalhkkjmiaaGreatDoor

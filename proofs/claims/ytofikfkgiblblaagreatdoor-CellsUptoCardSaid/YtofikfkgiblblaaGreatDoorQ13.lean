/- Merged: Drop. -/
import Derived.Test.YtofikfkgiblblaaGreatDoorQ10
import Derived.Test.YtofikfkgiblblaaGreatDoorQ12
/- Sets: entries dropped, as the document's answer tells it. -/
namespace Go.Proofs.YtofikfkgiblblaaGreatDoor
set_option linter.unusedVariables false
set_option linter.unusedSimpArgs false
set_option linter.unusedVariables false
set_option linter.unusedSimpArgs false
open Go.RowKit Go.Lib Go.Tt
/-- What a drop leaves. -/
def dropped (l : List En) (ds : List Dt) : List En := l.filter fun e => decide ((e.1, e.2.1) ∉ ds)
theorem dropped_len (l : List En) (ds : List Dt) : (dropped l ds).length ≤ l.length := List.length_filter_le _ _
theorem dropped_step {l : List En} {ds : List Dt} {i : Nat} {x : En} (h : i < l.length) (hx : Hid (x = l[i])) : dropped (l.take (i + 1)) ds = dropped (l.take i) ds ++ if (x.1, x.2.1) ∈ ds then [] else [x] := by
  rw [List.take_succ_eq_append_getElem h, ← hx.out]
  unfold dropped
  rw [List.filter_append]
  by_cases hv : (x.1, x.2.1) ∈ ds <;> simp [hv]
set_option maxHeartbeats 1000000 in
set_option maxRecDepth 100000 in
theorem refDrop_ok {w : World} {c : CellV} {ve vl vs : Value} (h : CellR w c ve vl vs) (hb : CellB c) (hk : c.kind = 2) {ad : Option Addr} {nd cd : Nat} {ds : List Dt} (hd : RdS w eDt (.slice ad nd cd) ds) :
    Calls Tryz.prog 80 #[cval c ve vl vs, .slice ad nd cd] w fun e w' => ∃ ve' vl' vs', e = .returned (.tuple #[cval { c with ents := dropped c.ents ds } ve' vl' vs', .int .i64 0]) ∧ CellO w' (Nw No w w') { c with ents := dropped c.ents ds } ve' vl' vs' ∧ Frm No w w' := by
  obtain ⟨he, hl, hs⟩ := h
  have HR := Lib.hid (⟨he, hl, hs⟩ : CellR w c ve vl vs)
  obtain ⟨ae, ce, rfl⟩ := he.sh
  obtain ⟨al, cl, rfl⟩ := hl.sh
  obtain ⟨at_, cs, rfl⟩ := hs.sh
  have hcv : cval c (.slice ae c.ents.length ce) (.slice al c.elems.length cl) (.slice at_ c.seen.length cs) = .agg #[.int .i64 2, .bool c.set, .int .i64 c.st.1, .int .i64 c.st.2, .string c.value, .int .i64 c.num.1, .int .i64 c.num.2, .slice ae c.ents.length ce, .slice al c.elems.length cl, .slice at_ c.seen.length cs] := by unfold cval; rw [hk]
  rw [hcv]
  have HV := Lib.hid hcv
  have HK := Lib.hid hk
  have HE := Lib.hid he
  have HD := Lib.hid hd
  have HB := Lib.hid hb
  have hb1 : c.ents.length * 32 ≤ 140737488351232 := hb.e
  clear he hl hs hb hd hk hcv
  go_enter Tryz.func80, Tryz.ntmps80
  go_wp2
  go_loopg [6, 7] (c.ents.length + 1) (fun g ov iv wr => ∃ (i : Nat) (ao : Option Addr) (no co : Nat), iv = .int .i64 i ∧ ov = .slice ao no co ∧ i ≤ c.ents.length ∧ g = c.ents.length - i + 1 ∧ Frm No w wr ∧
    wr.heap[w.heap.size]? = some (.cells #[.int .i64 2, .bool c.set, .int .i64 c.st.1, .int .i64 c.st.2, .string c.value, .int .i64 c.num.1, .int .i64 c.num.2, .slice ae c.ents.length ce, .slice al c.elems.length cl, .slice at_ c.seen.length cs] 30 (0, 0)) ∧
    wr.heap[w.heap.size + 1]? = some (.cells #[.int .i64 0, .bool false, .int .i64 0, .int .i64 0, .string ⟨#[]⟩, .int .i64 0, .int .i64 0, .slice none 0 0, .slice none 0 0, .slice none 0 0] 30 (0, 0)) ∧
    Ow wr (fun k => w.heap.size + 2 ≤ k) 62 eEn (.slice ao no co) (dropped (c.ents.take i) ds))
  case atStart => exact ⟨0, none, 0, 0, rfl, rfl, Nat.zero_le _, by omega, ((Frm.refl No w).al _).al _, al_old (heap_alloc_new w _), al_at (by simp), Ow.nil _ _ _ _ _⟩
  case round =>
    obtain ⟨i, ao, no, co, rfl, rfl, hi, hg, F, B, C, O⟩ := hrel
    have hG := Lib.hid hg
    have n1 : w.heap.size < wr.heap.size := lt_of_block B
    have n2 : w.heap.size + 1 < wr.heap.size := lt_of_block C
    clear hg
    by_cases hlt : i < c.ents.length
    · have q7 : wr.cell? ⟨w.heap.size, 7, none⟩ = some (.slice ae c.ents.length ce) := obj_cell B 7
      obtain ⟨b, off, rfl, hbl, hc⟩ := (HE.out.no F).at hlt
      have e0 : wr.cell? ⟨b, off + i * 3, none⟩ = some (.int .i64 c.ents[i].1) := hc 0 _ rfl
      have e1 : wr.cell? ⟨b, off + i * 3 + 1, none⟩ = some (.int .i64 c.ents[i].2.1) := hc 1 _ rfl
      have e2 : wr.cell? ⟨b, off + i * 3 + 2, none⟩ = some (.string c.ents[i].2.2) := hc 2 _ rfl
      clear hc
      obtain ⟨x, hx⟩ : ∃ x, Hid (x = c.ents[i]) := ⟨_, Lib.hid rfl⟩
      rw [← hx.out] at e0 e1 e2
      have hno := O.cap.1
      have hle : (dropped (c.ents.take i) ds).length ≤ i := Nat.le_trans (dropped_len _ ds) (by rw [List.length_take]; omega)
      have HN := Lib.hid hno
      have hle' : no ≤ i := by omega
      clear hno hle
      go_wp2_with (fail)
      by_cases hm : (x.1, x.2.1) ∈ ds
      · have hA := among_ok (HD.out.no F) (x.1, x.2.1)
        rw [decide_eq_true hm] at hA
        refine hA.mono ?_
        rintro e w2 ⟨rfl, f2⟩
        clear hA
        go_wp2
        go_roundg (c.ents.length - (i + 1) + 1)
        case measure => have := hG.out; omega
        case rel =>
          have hs := dropped_step (ds := ds) hlt hx
          rw [if_pos hm, List.append_nil] at hs
          exact ⟨i + 1, ao, no, co, by go_num, rfl, by omega, rfl, F.next f2, f2.obj B id, f2.obj C id, by rw [hs]; exact O.no f2⟩
      · have hA := among_ok (HD.out.no F) (x.1, x.2.1)
        rw [decide_eq_false hm] at hA
        refine hA.mono ?_
        rintro e w2 ⟨rfl, f2⟩
        clear hA
        have B2 := f2.obj B id
        have n21 : w.heap.size < w2.heap.size := lt_of_block B2
        have q27 : w2.cell? ⟨w.heap.size, 7, none⟩ = some (.slice (some ⟨b, off, none⟩) c.ents.length ce) := obj_cell B2 7
        have e20 : w2.cell? ⟨b, off + i * 3, none⟩ = some (.int .i64 x.1) := (f2.cell (World.block_lt_of_cell? _ _ e0) id).trans e0
        have e21 : w2.cell? ⟨b, off + i * 3 + 1, none⟩ = some (.int .i64 x.2.1) := (f2.cell (World.block_lt_of_cell? _ _ e1) id).trans e1
        have e22 : w2.cell? ⟨b, off + i * 3 + 2, none⟩ = some (.string x.2.2) := (f2.cell (World.block_lt_of_cell? _ _ e2) id).trans e2
        clear q7 e0 e1 e2
        go_wp2_with (at_builtin; refine wpList_ap _ rfl (.tmp 28) (.tmp 34) 26 26 rfl 62 _ 32 Tryz.underlying26 i_en rfl ((O.no f2).al _) ((RdS.litg _ eEn x _ (g := w2.heap.size) rfl).src Tryz.underlying26) rfl rfl rfl ?c1 ?c2 ?_)
        case c1 => rw [← HN.out]; unfold maxLen; omega
        case c2 => rw [← HN.out]; omega
        intro a' c' w3 o3 f3
        have hf3 : ∀ k, k < w2.heap.size → k < w.heap.size + 2 → ¬ (w.heap.size + 2 ≤ k) := fun k _ h => by omega
        have B3 := f3.obj (al_old B2) (by omega)
        have C3 := f3.obj (al_old (f2.obj C id)) (by omega)
        have F3 : Frm No w w3 := ((F.next f2).al _).then f3 fun k hk hh => by omega
        rw [← HN.out] at o3
        go_wp2
        go_roundg (c.ents.length - (i + 1) + 1)
        case measure => have := hG.out; omega
        case rel =>
          have hs := dropped_step (ds := ds) hlt hx
          rw [if_neg hm] at hs
          exact ⟨i + 1, a', no + 1, c', by go_num, by rw [HN.out], by omega, rfl, F3, B3, C3, by rw [hs]; exact o3.mono fun k _ hh => by rcases hh with hh | hh; exact hh; have := hh.1; simp at this; omega⟩
    · have hii : ¬ ((i : Int) < c.ents.length) := by omega
      obtain ⟨q0, q1, q2, q3, q4, q5, q6, q7, q8, q9⟩ := obj10 B
      have hcp := refCopy_ok (HR.out.no F) HB.out
      rw [HV.out] at hcp
      go_wp2_with (fail)
      refine hcp.mono ?_
      rintro e w2 ⟨ve', vl', vs', rfl, o2, f2⟩
      obtain ⟨a1, c1, rfl⟩ := o2.e.sh
      obtain ⟨a2, c2, rfl⟩ := o2.l.sh
      obtain ⟨a3, c3, rfl⟩ := o2.s.sh
      rw [show cval c (.slice a1 c.ents.length c1) (.slice a2 c.elems.length c2) (.slice a3 c.seen.length c3) = .agg #[.int .i64 2, .bool c.set, .int .i64 c.st.1, .int .i64 c.st.2, .string c.value, .int .i64 c.num.1, .int .i64 c.num.2, .slice a1 c.ents.length c1, .slice a2 c.elems.length c2, .slice a3 c.seen.length c3] by unfold cval; rw [HK.out]]
      have F2 := F.next f2
      have B2 := f2.obj B id
      have C2 := f2.obj C id
      replace O := O.no f2
      have htk : c.ents.take i = c.ents := List.take_of_length_le (by omega)
      rw [htk] at O
      have hw2 : w.heap.size + 2 ≤ wr.heap.size := by omega
      clear hcp q0 q1 q2 q3 q4 q5 q6 q7 q8 q9 B C F f2 n1 n2 htk hii
      have hone : ∀ (v1 v2 v3 : Value), v1.oneCell' = true → v2.oneCell' = true → v3.oneCell' = true → ∀ u ∈ [Value.int .i64 2, .bool c.set, .int .i64 c.st.1, .int .i64 c.st.2, .string c.value, .int .i64 c.num.1, .int .i64 c.num.2, v1, v2, v3], u.oneCell' = true := by
        intro v1 v2 v3 h1 h2 h3 u hu
        simp only [List.mem_cons, List.not_mem_nil, or_false] at hu
        rcases hu with rfl | rfl | rfl | rfl | rfl | rfl | rfl | rfl | rfl | rfl <;> first | rfl | assumption
      go_wp2_with (refine wpList_sto _ rfl (.tmp 2) (.tmp 37) 30 rfl B2 (by kernel_rfl) (by rfl) (hone (.slice a1 c.ents.length c1) (.slice a2 c.elems.length c2) (.slice a3 c.seen.length c3) rfl rfl rfl) rfl rfl ?_)
      intro w3 B3 f3 z3
      have C3 := f3.obj C2 (by omega)
      have n3 : w.heap.size < w3.heap.size := lt_of_block B3
      obtain ⟨q0, q1, q2, q3, q4, q5, q6, q7, q8, q9⟩ := obj10 B3
      have r3 := obj_frz B3
      go_wp2_with (refine wpList_sto _ rfl (.tmp 4) (.tmp 40) 30 rfl (obj_setCell_ne C3 (by omega) (.slice ao no co)) (by kernel_rfl) (by rfl) (hone (.slice ao no co) (.slice a2 c.elems.length c2) (.slice a3 c.seen.length c3) rfl rfl rfl) rfl rfl ?_)
      intro w4 C4 f4 z4
      obtain ⟨p0, p1, p2, p3, p4, p5, p6, p7, p8, p9⟩ := obj10 C4
      clear q0 q1 q2 q3 q4 q5 q6 q7 q8 q9 r3
      go_wp2
      refine bodyPost_ret (v := .tuple #[.agg #[.int .i64 2, .bool c.set, .int .i64 c.st.1, .int .i64 c.st.2, .string c.value, .int .i64 c.num.1, .int .i64 c.num.2, .slice ao no co, .slice a2 c.elems.length c2, .slice a3 c.seen.length c3], .int .i64 0]) (by simp [results, Tryz.results80, go_sem, *]) rfl ?_
      have G : Frm (fun k => w.heap.size ≤ k ∧ k < w.heap.size + 2) w2 w4 := ((f3.mono fun k _ hk => by omega).trans (Frm.setCell (F := fun k => w.heap.size ≤ k ∧ k < w.heap.size + 2) w3 ⟨w.heap.size, 7, none⟩ (.slice ao no co) (by show w.heap.size ≤ w.heap.size ∧ w.heap.size < w.heap.size + 2; omega))).trans (f4.mono fun k _ hk => by omega)
      have hG2 : ∀ k, w.heap.size + 2 ≤ k → ¬ (w.heap.size ≤ k ∧ k < w.heap.size + 2) := fun k h => by omega
      have o2' := o2.mono (G := fun k => w.heap.size + 2 ≤ k) fun k hk hh => by rcases hh with hh | hh; exact hh.elim; exact Nat.le_trans hw2 hh.1
      refine ⟨_, _, _, ?_, ⟨(O.frm G hG2).fin (by omega), (o2'.l.frm G hG2).fin (by omega), (o2'.s.frm G hG2).fin (by omega)⟩, F2.then G fun k hk hh => by have := hh.1; omega⟩
      unfold cval
      dsimp only
      rw [HK.out]
end Go.Proofs.YtofikfkgiblblaaGreatDoor

/- Merged: PutE Put. -/
import Derived.Shelf.Abstract
import Derived.Test.YtgpdpalhkkjmiaaGreatDoorV02
import Derived.Test.YtgpdpalhkkjmiaaGreatDoorV07
import Derived.Test.YtgpdpalhkkjmiaaGreatDoorV08
/- Sets: an entry put, as the document's answer tells it (under way). -/
namespace Go.Proofs.YtgpdpalhkkjmiaaGreatDoor
set_option linter.unusedVariables false
set_option linter.unusedSimpArgs false
set_option linter.unusedVariables false
set_option linter.unusedSimpArgs false
open Go.RowKit Go.Lib Go.Tt
theorem RdS_take {α : Type} {w : World} {E : Enc α} {a : Option Addr} {n c k : Nat} {l : List α} (h : RdS w E (.slice a n c) l) (hk : k ≤ l.length) : RdS w E (.slice a k c) (l.take k) := by
  have h' : RdS w E (.slice a n c) (l.take k ++ l.drop k) := by rw [List.take_append_drop]; exact h
  exact RdS_pre h' (by rw [List.length_take]; omega)
/-- Where an entry goes. -/
def putAt (l : List En) (d : Dt) : Nat := l.findIdx fun e => dotLess d (e.1, e.2.1)
/-- What a put leaves. -/
def putEn (l : List En) (d : Dt) (v : ByteArray) : List En := l.take (putAt l d) ++ (d.1, d.2, v) :: l.drop (putAt l d)
theorem putAt_eq {l : List En} {d : Dt} {k : Nat} (hk : k ≤ l.length) (h1 : ∀ j (hj : j < l.length), j < k → dotLess d (l[j].1, l[j].2.1) = false) (h2 : ∀ hk : k < l.length, dotLess d (l[k].1, l[k].2.1) = true) : putAt l d = k := by
  unfold putAt
  rcases Nat.lt_or_ge k l.length with hlt | hge
  · rw [List.findIdx_eq hlt]
    exact ⟨h2 hlt, fun j hj => by simpa using h1 j (by omega) hj⟩
  · have : k = l.length := by omega
    subst this
    exact List.findIdx_eq_length_of_false fun x hx => by
      obtain ⟨j, hj, rfl⟩ := List.getElem_of_mem hx
      simpa using h1 j hj hj
theorem putAt_step {l : List En} {d : Dt} {i k : Nat} {x : En} (hi : i < l.length) (hx : Hid (x = l[i])) (hb : Hid (dotLess d (x.1, x.2.1) = false)) (h : Hid (∀ j (hj : j < l.length), i + 1 ≤ j → j < k → dotLess d (l[j].1, l[j].2.1) = false)) :
    ∀ j (hj : j < l.length), i ≤ j → j < k → dotLess d (l[j].1, l[j].2.1) = false := by
  intro j hj h1 h2
  rcases Nat.lt_or_ge i j with h3 | h3
  · exact h.out j hj h3 h2
  · obtain rfl : j = i := by omega
    have := hb.out
    rw [hx.out] at this
    exact this
set_option maxHeartbeats 1000000 in
set_option maxRecDepth 100000 in
theorem refPut_ok {w : World} {c : CellV} {ve vl vs : Value} (h : CellR w c ve vl vs) (hb : CellB c) (hk : c.kind = 2) (d : Dt) (hd : dotMay d = true) (v : ByteArray) (hv : v.size ≤ 256) (hne : ∀ e ∈ c.ents, (e.1, e.2.1) ≠ d) (hroom : (c.ents.length + 1) * 32 ≤ 140737488355328) :
    Calls Tryz.prog 35 #[cval c ve vl vs, .agg #[.int .i64 d.1, .int .i64 d.2], .string v] w fun e w' => ∃ ve' vl' vs', e = .returned (.tuple #[cval { c with ents := putEn c.ents d v } ve' vl' vs', .int .i64 0]) ∧ CellO w' (Nw No w w') { c with ents := putEn c.ents d v } ve' vl' vs' ∧ Frm No w w' := by
  obtain ⟨he, hl, hs⟩ := h
  have HR := Lib.hid (⟨he, hl, hs⟩ : CellR w c ve vl vs)
  obtain ⟨ae, ce, rfl⟩ := he.sh
  obtain ⟨al, cl, rfl⟩ := hl.sh
  obtain ⟨at_, cs, rfl⟩ := hs.sh
  have hcv : cval c (.slice ae c.ents.length ce) (.slice al c.elems.length cl) (.slice at_ c.seen.length cs) = .agg #[.int .i64 2, .bool c.set, .int .i64 c.st.1, .int .i64 c.st.2, .string c.value, .int .i64 c.num.1, .int .i64 c.num.2, .slice ae c.ents.length ce, .slice al c.elems.length cl, .slice at_ c.seen.length cs] := by unfold cval; rw [hk]
  rw [hcv]
  have HV := Lib.hid hcv
  have HK := Lib.hid hk
  have HE := Lib.hid he
  have HB := Lib.hid hb
  have HM := fun W => refDotMay16 d W
  rw [hd] at HM
  have HNE := Lib.hid hne
  clear he hl hs hb hd hk hcv hne
  go_enter Tryz.func35, Tryz.ntmps35
  go_wp2_with (fail)
  refine (HM _).mono ?_
  rintro e w1 ⟨rfl, f1⟩
  have F1 : Frm No w w1 := (((Frm.refl No w).al _).al _).al _ |>.trans f1
  have B1 : w1.heap[w.heap.size]? = some (.cells #[.int .i64 2, .bool c.set, .int .i64 c.st.1, .int .i64 c.st.2, .string c.value, .int .i64 c.num.1, .int .i64 c.num.2, .slice ae c.ents.length ce, .slice al c.elems.length cl, .slice at_ c.seen.length cs] 75 (0, 0)) := f1.obj (al_old (al_old (heap_alloc_new w _))) id
  have D1 : w1.heap[w.heap.size + 1]? = some (.cells #[.int .i64 d.1, .int .i64 d.2] 83 (0, 0)) := f1.obj (al_old (al_at (by simp))) id
  have C1 : w1.heap[w.heap.size + 2]? = some (.cells #[.int .i64 0, .bool false, .int .i64 0, .int .i64 0, .string ⟨#[]⟩, .int .i64 0, .int .i64 0, .slice none 0 0, .slice none 0 0, .slice none 0 0] 75 (0, 0)) := f1.obj (al_at (by simp)) id
  have q7 : w1.cell? ⟨w.heap.size, 7, none⟩ = some (.slice ae c.ents.length ce) := obj_cell B1 7
  have hm1 : c.ents.length ≤ 2 ^ 63 - 1 := by obtain ⟨-, h1, h2, -⟩ := HE.out.facts; unfold maxLen at h2; omega
  clear f1 HM
  go_wp2
  clear q7
  go_loopg [8, 9] (c.ents.length + 1) (fun g kv iv wr => ∃ (t k : Nat), iv = .int .i64 ((t : Int) - 1) ∧ kv = .int .i64 k ∧ t ≤ k ∧ k ≤ c.ents.length ∧ g = t + 1 ∧ Frm No w wr ∧
    wr.heap[w.heap.size]? = some (.cells #[.int .i64 2, .bool c.set, .int .i64 c.st.1, .int .i64 c.st.2, .string c.value, .int .i64 c.num.1, .int .i64 c.num.2, .slice ae c.ents.length ce, .slice al c.elems.length cl, .slice at_ c.seen.length cs] 75 (0, 0)) ∧ wr.heap[w.heap.size + 1]? = some (.cells #[.int .i64 d.1, .int .i64 d.2] 83 (0, 0)) ∧ wr.heap[w.heap.size + 2]? = some (.cells #[.int .i64 0, .bool false, .int .i64 0, .int .i64 0, .string ⟨#[]⟩, .int .i64 0, .int .i64 0, .slice none 0 0, .slice none 0 0, .slice none 0 0] 75 (0, 0)) ∧
    (∀ j (hj : j < c.ents.length), t ≤ j → j < k → dotLess d (c.ents[j].1, c.ents[j].2.1) = false) ∧ (∀ hk : k < c.ents.length, dotLess d (c.ents[k].1, c.ents[k].2.1) = true))
  case atStart => exact ⟨c.ents.length, c.ents.length, rfl, rfl, Nat.le_refl _, Nat.le_refl _, rfl, F1, B1, D1, C1, fun j hj h1 h2 => by omega, fun h => by omega⟩
  case round =>
    clear F1 B1 D1 C1
    obtain ⟨t, k, hiv, rfl, htk, hkn, hg, f, B, D, C, h1, h2⟩ := hrel
    have hG := Lib.hid hg
    have H1 := Lib.hid h1
    have H2 := Lib.hid h2
    clear hg h1 h2
    have q7 : wr.cell? ⟨w.heap.size, 7, none⟩ = some (.slice ae c.ents.length ce) := obj_cell B 7
    have d0 : wr.cell? ⟨w.heap.size + 1, 0, none⟩ = some (.int .i64 d.1) := obj_cell D 0
    have d1 : wr.cell? ⟨w.heap.size + 1, 1, none⟩ = some (.int .i64 d.2) := obj_cell D 1
    cases t with
    | zero =>
      rw [show ((0 : Nat) : Int) - 1 = -1 by rfl] at hiv
      subst hiv
      have hput : putAt c.ents d = k := putAt_eq hkn (fun j hj h => H1.out j hj (Nat.zero_le _) h) H2.out
      have hcap : c.ents.length ≤ ce := HE.out.facts.2.1
      have n1 : w.heap.size < wr.heap.size := lt_of_block B
      clear H1 H2
      have hb2 : (c.ents.take k).length = k := by rw [List.length_take]; omega
      go_wp2_with (at_builtin; refine wpList_ap _ rfl (.tmp 54) (.tmp 58) 72 72 rfl 98 _ 32 Tryz.underlying72 i_en rfl (Ow.nil _ No _ eEn _) ((RdS_take (HE.out.no (f.al _)) hkn).src Tryz.underlying72) hb2.symm rfl rfl ?c1 ?c2 ?_)
      case c1 => unfold maxLen; simp; omega
      case c2 => simp; omega
      intro a1 c1 w1 o1 f1
      have F1 := (f.al _).trans f1
      have B1 := f1.obj (al_old B) id
      have D1 := f1.obj (al_old D) id
      have C1 := f1.obj (al_old C) id
      have z0 : w.heap.size + 3 ≤ wr.heap.size := by have := lt_of_block C; omega
      replace o1 := o1.from (w.heap.size + 3) (by simp; omega)
      have z1 : w.heap.size + 3 ≤ w1.heap.size := by have := lt_of_block C1; omega
      have x0 : w1.cell? ⟨w.heap.size + 1, 0, none⟩ = some (.int .i64 d.1) := obj_cell D1 0
      have x1 : w1.cell? ⟨w.heap.size + 1, 1, none⟩ = some (.int .i64 d.2) := obj_cell D1 1
      clear f f1 B D C d0 d1 q7 n1
      go_wp2_with (at_builtin; refine wpList_ap _ rfl (.tmp 60) (.tmp 64) 72 72 rfl 98 _ 32 Tryz.underlying72 i_en rfl (o1.al _) ((RdS.litg _ eEn (d.1, d.2, v) _ (g := w1.heap.size) rfl).src Tryz.underlying72) rfl rfl rfl ?c1 ?c2 ?_)
      case c1 => rw [hb2]; unfold maxLen; omega
      case c2 => rw [hb2]; omega
      intro a2 c2 w2 o2 f2
      have F2 : Frm No w w2 := (F1.al _).then f2 fun k hk hh => by omega
      have B2 := f2.obj (al_old B1) (by omega)
      have C2 := f2.obj (al_old C1) (by omega)
      replace o2 := o2.mono (G := fun k => w.heap.size + 3 ≤ k) fun k _ hh => by rcases hh with hh | hh; exact hh; have := hh.1; simp at this; omega
      have n2 : w.heap.size < w2.heap.size := lt_of_block B2
      have q7 : w2.cell? ⟨w.heap.size, 7, none⟩ = some (.slice ae c.ents.length ce) := obj_cell B2 7
      clear F1 f2 B1 C1 D1 x0 x1 o1
      have hl12 : (c.ents.take k ++ [(d.1, d.2, v)]).length = k + 1 := by simp; omega
      have hb3 : (c.ents.drop k).length = c.ents.length - k := by simp
      go_wp2_with (refine wpList_from _ rfl (.tmp 68) (.tmp 69) 72 98 rfl (E := eEn) Tryz.underlying72 (by kernel_rfl) (by kernel_rfl) (HE.out.no F2) hkn rfl rfl ?_)
      intro ad cd hD
      go_wp2_with (at_builtin; refine wpList_ap _ rfl (.tmp 66) (.tmp 70) 72 72 rfl 98 _ 32 Tryz.underlying72 i_en rfl o2 (hD.src Tryz.underlying72) hb3.symm rfl rfl ?c1 ?c2 ?_)
      case c1 => rw [hl12]; unfold maxLen; omega
      case c2 => rw [hl12]; omega
      intro a3 c3 w3 o3 f3
      have F3 : Frm No w w3 := F2.then f3 fun k hk hh => by omega
      have B3 := f3.obj B2 (by omega)
      have C3 := f3.obj C2 (by omega)
      replace o3 := o3.mono (G := fun k => w.heap.size + 3 ≤ k) fun k _ hh => by rcases hh with hh | hh; exact hh; have := hh.1; have := lt_of_block C2; omega
      have hw3 : w.heap.size + 3 ≤ w3.heap.size := by have := lt_of_block C3; omega
      clear F2 f3 B2 C2 q7 n2 o2 hD
      obtain ⟨no, hno⟩ : ∃ no, Hid (no = k + 1 + (c.ents.length - k)) := ⟨_, Lib.hid rfl⟩
      rw [← hno.out] at o3 ⊢
      obtain ⟨q0, q1, q2, q3, q4, q5, q6, q7, q8, q9⟩ := obj10 B3
      have hcp := refCopy_ok (HR.out.no F3) HB.out
      rw [HV.out] at hcp
      go_wp2_with (fail)
      refine hcp.mono ?_
      rintro e w4 ⟨ve', vl', vs', rfl, o4, f4⟩
      obtain ⟨a4, c4, rfl⟩ := o4.e.sh
      obtain ⟨a5, c5, rfl⟩ := o4.l.sh
      obtain ⟨a6, c6, rfl⟩ := o4.s.sh
      rw [show cval c (.slice a4 c.ents.length c4) (.slice a5 c.elems.length c5) (.slice a6 c.seen.length c6) = .agg #[.int .i64 2, .bool c.set, .int .i64 c.st.1, .int .i64 c.st.2, .string c.value, .int .i64 c.num.1, .int .i64 c.num.2, .slice a4 c.ents.length c4, .slice a5 c.elems.length c5, .slice a6 c.seen.length c6] by unfold cval; rw [HK.out]]
      have F4 := F3.next f4
      have B4 := f4.obj B3 id
      have C4 := f4.obj C3 id
      replace o3 := o3.no f4
      clear hcp q0 q1 q2 q3 q4 q5 q6 q7 q8 q9 B3 C3 F3 f4
      have hone : ∀ (v1 v2 v3 : Value), v1.oneCell' = true → v2.oneCell' = true → v3.oneCell' = true → ∀ u ∈ [Value.int .i64 2, .bool c.set, .int .i64 c.st.1, .int .i64 c.st.2, .string c.value, .int .i64 c.num.1, .int .i64 c.num.2, v1, v2, v3], u.oneCell' = true := by
        intro v1 v2 v3 h1 h2 h3 u hu
        simp only [List.mem_cons, List.not_mem_nil, or_false] at hu
        rcases hu with rfl | rfl | rfl | rfl | rfl | rfl | rfl | rfl | rfl | rfl <;> first | rfl | assumption
      go_wp2_with (refine wpList_sto _ rfl (.tmp 3) (.tmp 73) 75 rfl B4 (by kernel_rfl) (by rfl) (hone (.slice a4 c.ents.length c4) (.slice a5 c.elems.length c5) (.slice a6 c.seen.length c6) rfl rfl rfl) rfl rfl ?_)
      intro w5 B5 f5 z5
      have C5 := f5.obj C4 (by omega)
      have n3 : w.heap.size < w5.heap.size := lt_of_block B5
      obtain ⟨q0, q1, q2, q3, q4, q5, q6, q7, q8, q9⟩ := obj10 B5
      have r3 := obj_frz B5
      go_wp2_with (refine wpList_sto _ rfl (.tmp 6) (.tmp 76) 75 rfl (obj_setCell_ne C5 (by omega) (.slice a3 no c3)) (by kernel_rfl) (by rfl) (hone (.slice a3 no c3) (.slice a5 c.elems.length c5) (.slice a6 c.seen.length c6) rfl rfl rfl) rfl rfl ?_)
      intro w6 C6 f6 z6
      obtain ⟨p0, p1, p2, p3, p4, p5, p6, p7, p8, p9⟩ := obj10 C6
      clear q0 q1 q2 q3 q4 q5 q6 q7 q8 q9 r3
      go_wp2
      refine bodyPost_ret (v := .tuple #[.agg #[.int .i64 2, .bool c.set, .int .i64 c.st.1, .int .i64 c.st.2, .string c.value, .int .i64 c.num.1, .int .i64 c.num.2, .slice a3 no c3, .slice a5 c.elems.length c5, .slice a6 c.seen.length c6], .int .i64 0]) (by simp [results, Tryz.results35, go_sem, *]) rfl ?_
      have G : Frm (fun k => w.heap.size ≤ k ∧ k < w.heap.size + 3) w4 w6 := ((f5.mono fun k _ hk => by omega).trans (Frm.setCell (F := fun k => w.heap.size ≤ k ∧ k < w.heap.size + 3) w5 ⟨w.heap.size, 7, none⟩ (.slice a3 no c3) (by show w.heap.size ≤ w.heap.size ∧ w.heap.size < w.heap.size + 3; omega))).trans (f6.mono fun k _ hk => by omega)
      have hG2 : ∀ k, w.heap.size + 3 ≤ k → ¬ (w.heap.size ≤ k ∧ k < w.heap.size + 3) := fun k h => by omega
      have o4' := o4.mono (G := fun k => w.heap.size + 3 ≤ k) fun k hk hh => by rcases hh with hh | hh; exact hh.elim; exact Nat.le_trans hw3 hh.1
      have hpe : putEn c.ents d v = c.ents.take k ++ (d.1, d.2, v) :: c.ents.drop k := by unfold putEn; rw [hput]
      rw [hpe]
      refine ⟨_, _, _, ?_, ⟨(o3.frm G hG2).fin (by omega), (o4'.l.frm G hG2).fin (by omega), (o4'.s.frm G hG2).fin (by omega)⟩, F4.then G fun k hk hh => by have := hh.1; omega⟩
      unfold cval
      dsimp only
      rw [HK.out]
    | succ i =>
      rw [show ((i + 1 : Nat) : Int) - 1 = i by omega] at hiv
      subst hiv
      have hlt : i < c.ents.length := by omega
      obtain ⟨b, off, rfl, -, hc⟩ := (HE.out.no f).at hlt
      obtain ⟨x, hx⟩ : ∃ x, Hid (x = c.ents[i]) := ⟨_, Lib.hid rfl⟩
      rw [← hx.out] at hc
      have e0 : wr.cell? ⟨b, off + i * 3, none⟩ = some (.int .i64 x.1) := hc 0 _ rfl
      have e1 : wr.cell? ⟨b, off + i * 3 + 1, none⟩ = some (.int .i64 x.2.1) := hc 1 _ rfl
      have e2 : wr.cell? ⟨b, off + i * 3 + 2, none⟩ = some (.string x.2.2) := hc 2 _ rfl
      clear hc
      have hxd : ¬ x.1 = d.1 ∨ (x.1 = d.1 ∧ ¬ x.2.1 = d.2) := by
        by_cases h1 : x.1 = d.1
        · refine .inr ⟨h1, fun h2 => HNE.out x (by rw [hx.out]; exact List.getElem_mem hlt) (Prod.ext h1 h2)⟩
        · exact .inl h1
      have hcase : (dotLess d (x.1, x.2.1) = true) ∨ (dotLess d (x.1, x.2.1) = false) := by cases dotLess d (x.1, x.2.1) <;> simp
      have hLess := fun W => refDotLess d (x.1, x.2.1) W
      rcases hxd with hxd | ⟨hxa, hxd⟩ <;> rcases hcase with hB | hB <;> rw [hB] at hLess <;> have HBl := Lib.hid hB <;> clear hB <;> simp only [] at hLess <;> try simp only [hxa] at hLess
      all_goals go_wp2
      all_goals refine wp_region_plan [([0, 1, 2, 3, 4, 5, 6, 7], [])] 77 (by kernel_rfl) (by kernel_rfl) (by simp) ?_
      all_goals intro N hN
      all_goals simp only [wpSegs, List.map_cons, List.map_nil, List.getD_cons_zero, List.getD_cons_succ]
      all_goals go_wp2
      all_goals refine wp_region_plan [([0, 1, 2, 3, 4, 5, 6, 7], [])] 77 (by kernel_rfl) (by kernel_rfl) (by simp) ?_
      all_goals intro N2 hN2
      all_goals simp only [wpSegs, List.map_cons, List.map_nil, List.getD_cons_zero, List.getD_cons_succ]
      all_goals go_wp2_with (fail)
      all_goals refine (hLess _).mono ?_
      all_goals rintro e w2 ⟨rfl, f2⟩
      all_goals clear hLess
      all_goals go_wp2
      all_goals go_roundg (i + 1)
      all_goals first
        | (have := hG.out; omega)
        | exact ⟨i, i, by go_num, rfl, Nat.le_refl _, by omega, rfl, (f.trans ((Frm.drew No _).trans ((Frm.drew No _).trans f2))), f2.obj B id, f2.obj D id, f2.obj C id, fun j hj a b => absurd b (by omega), fun hk => by have := HBl.out; rw [hx.out] at this; exact this⟩
        | exact ⟨i, k, by go_num, rfl, by omega, hkn, rfl, (f.trans ((Frm.drew No _).trans ((Frm.drew No _).trans f2))), f2.obj B id, f2.obj D id, f2.obj C id, putAt_step hlt hx HBl H1, H2.out⟩
end Go.Proofs.YtgpdpalhkkjmiaaGreatDoor

/- Sets: orset.Put. -/
namespace Go.Proofs.YtgpdpalhkkjmiaaGreatDoor
set_option linter.unusedVariables false
set_option linter.unusedSimpArgs false
open Go.RowKit Go.Lib Go.Tt Go.Shelf
theorem lwwValue_ok (v : ByteArray) (w : World) (hv : v.size ≤ 2 ^ 63 - 1) : Calls Tryz.prog 98 #[.string v] w fun e w' => e = .returned (.bool (decide (v.size ≤ 256))) ∧ w = w' := by
  go_enter Tryz.func98, Tryz.ntmps98
  go_wp2
  all_goals go_ret
  all_goals refine ⟨congrArg (fun b => Ending.returned (Value.bool b)) ?_, rfl⟩
  all_goals first
    | exact dec_t (by omega)
    | exact dec_f (by omega)
    | exact dec_d (by omega)
set_option maxHeartbeats 1000000 in
set_option maxRecDepth 100000 in
theorem put_ok {w : World} {c : CellV} {ve vl vs : Value} (h : CellR w c ve vl vs) (hb : CellB c) (hk : c.kind = 2) (d : Dt) (hd : dotMay d = true) (v : ByteArray) (hv : v.size ≤ 256) (hne : ∀ e ∈ c.ents, (e.1, e.2.1) ≠ d) (hroom : (c.ents.length + 1) * 32 ≤ 140737488355328) :
    Calls Tryz.prog 72 #[cval c ve vl vs, .agg #[.int .i64 d.1, .int .i64 d.2], .string v] w fun e w' => ∃ ve' vl' vs', e = .returned (.tuple #[cval { c with ents := putEn c.ents d v } ve' vl' vs', .int .i64 0]) ∧ CellO w' (Nw No w w') { c with ents := putEn c.ents d v } ve' vl' vs' ∧ Frm No w w' := by
  obtain ⟨he, hl, hs⟩ := h
  have HR := Lib.hid (⟨he, hl, hs⟩ : CellR w c ve vl vs)
  obtain ⟨ae, ce, rfl⟩ := he.sh
  obtain ⟨al, cl, rfl⟩ := hl.sh
  obtain ⟨at_, cs, rfl⟩ := hs.sh
  have hcv : cval c (.slice ae c.ents.length ce) (.slice al c.elems.length cl) (.slice at_ c.seen.length cs) = .agg #[.int .i64 2, .bool c.set, .int .i64 c.st.1, .int .i64 c.st.2, .string c.value, .int .i64 c.num.1, .int .i64 c.num.2, .slice ae c.ents.length ce, .slice al c.elems.length cl, .slice at_ c.seen.length cs] := by unfold cval; rw [hk]
  rw [hcv]
  have HV := Lib.hid hcv
  have HK := Lib.hid hk
  have HB := Lib.hid hb
  have HM := fun W => dotMay16 d W
  rw [hd] at HM
  have HL := fun W => lwwValue_ok v W (by omega)
  rw [decide_eq_true hv] at HL
  have HNE := Lib.hid hne
  clear he hl hs hb hd hk hcv hne
  go_enter Tryz.func72, Tryz.ntmps72
  go_wp2_with (fail)
  refine (HM _).mono ?_
  rintro e w1 ⟨rfl, f1⟩
  have F1 : Frm No w w1 := (((Frm.refl No w).al _).al _).al _ |>.trans f1
  have B1 : w1.heap[w.heap.size]? = some (.cells #[.int .i64 2, .bool c.set, .int .i64 c.st.1, .int .i64 c.st.2, .string c.value, .int .i64 c.num.1, .int .i64 c.num.2, .slice ae c.ents.length ce, .slice al c.elems.length cl, .slice at_ c.seen.length cs] 75 (0, 0)) := f1.obj (al_old (al_old (heap_alloc_new w _))) id
  have D1 : w1.heap[w.heap.size + 1]? = some (.cells #[.int .i64 d.1, .int .i64 d.2] 83 (0, 0)) := f1.obj (al_old (al_at (by simp))) id
  have C1 : w1.heap[w.heap.size + 2]? = some (.cells #[.int .i64 0, .bool false, .int .i64 0, .int .i64 0, .string ⟨#[]⟩, .int .i64 0, .int .i64 0, .slice none 0 0, .slice none 0 0, .slice none 0 0] 75 (0, 0)) := f1.obj (al_at (by simp)) id
  have q7 : w1.cell? ⟨w.heap.size, 7, none⟩ = some (.slice ae c.ents.length ce) := obj_cell B1 7
  clear f1 HM
  go_wp2_with (fail)
  refine (HL _).mono ?_
  rintro e w2 ⟨rfl, rfl⟩
  clear HL
  go_wp2_with (fail)
  have p1 : PredOk w1 96 #[.pointer (some ⟨w.heap.size + 1, 0, none⟩)] (fun e => decide ((e.1, e.2.1) = d)) := fun W x f => put1_ok (f.obj D1 id) x
  have hany : c.ents.any (fun e => decide ((e.1, e.2.1) = d)) = false := by
    rw [Bool.eq_false_iff]
    intro e
    obtain ⟨x, hx, hx2⟩ := List.any_eq_true.1 e
    exact HNE.out x hx (of_decide_eq_true hx2)
  have HC := containsFunc_ok (HR.out.no F1).e p1 (enters_of Tryz.func96 (by kernel_rfl) rfl)
  rw [hany] at HC
  refine HC.mono ?_
  rintro e w2 ⟨rfl, f2⟩
  have F2 := F1.trans f2
  have B2 := f2.obj B1 id
  have D2 := f2.obj D1 id
  have C2 := f2.obj C1 id
  have q72 : w2.cell? ⟨w.heap.size, 7, none⟩ = some (.slice ae c.ents.length ce) := obj_cell B2 7
  clear HC p1 hany f2 B1 D1 C1 q7 F1
  go_wp2_with (fail)
  have p2 : PredOk w2 101 #[.pointer (some ⟨w.heap.size + 1, 0, none⟩)] (fun e => dotLess d (e.1, e.2.1)) := fun W x f => put2_ok (f.obj D2 id) x
  have HC := indexFunc_ok (HR.out.no F2).e p2 (enters_of Tryz.func101 (by kernel_rfl) rfl)
  refine HC.mono ?_
  rintro e w3 ⟨rfl, f3⟩
  have F3 := F2.trans f3
  have B3 := f3.obj B2 id
  have D3 := f3.obj D2 id
  have C3 := f3.obj C2 id
  have q73 : w3.cell? ⟨w.heap.size, 7, none⟩ = some (.slice ae c.ents.length ce) := obj_cell B3 7
  clear HC p2 f3 B2 D2 C2 q72 F2
  have hm1 : c.ents.length ≤ 2 ^ 63 - 1 := by omega
  obtain ⟨q, hq⟩ : ∃ q, Hid (q = putAt c.ents d) := ⟨_, Lib.hid rfl⟩
  have hqn : q ≤ c.ents.length := by rw [hq.out]; exact List.findIdx_le_length
  obtain ⟨z, hz⟩ : ∃ z, Hid (z = idxF c.ents fun e => dotLess d (e.1, e.2.1)) := ⟨_, Lib.hid rfl⟩
  rw [← hz.out]
  have hzq : (z = q ∧ ¬ z < 0) ∨ (z = -1 ∧ q = c.ents.length) := by
    rw [hz.out, hq.out]
    unfold idxF putAt
    by_cases h : List.findIdx (fun e => dotLess d (e.1, e.2.1)) c.ents < c.ents.length
    · rw [if_pos h]; exact .inl ⟨rfl, by omega⟩
    · rw [if_neg h]; exact .inr ⟨rfl, by have := List.findIdx_le_length (xs := c.ents) (p := fun e => dotLess d (e.1, e.2.1)); omega⟩
  obtain ⟨p0, p1, p2, p3, p4, p5, p6, p7, p8, p9⟩ := obj10 B3
  clear q73
  have hcp := lwwCopy_ok (HR.out.no F3) HB.out
  rw [HV.out] at hcp
  have n3 : w.heap.size + 2 < w3.heap.size := lt_of_block C3
  have n31 : w.heap.size + 1 < w3.heap.size := lt_of_block D3
  have n30 : w.heap.size < w3.heap.size := lt_of_block B3
  rcases hzq with ⟨hz1, hz2⟩ | ⟨hz1, hz2⟩
  · subst hz1
    go_wp2_with (fail)
    refine hcp.mono ?_
    rintro e w4 ⟨ve', vl', vs', rfl, o4, f4⟩
    obtain ⟨a4, c4, rfl⟩ := o4.e.sh
    obtain ⟨a5, c5, rfl⟩ := o4.l.sh
    obtain ⟨a6, c6, rfl⟩ := o4.s.sh
    rw [show cval c (.slice a4 c.ents.length c4) (.slice a5 c.elems.length c5) (.slice a6 c.seen.length c6) = .agg #[.int .i64 2, .bool c.set, .int .i64 c.st.1, .int .i64 c.st.2, .string c.value, .int .i64 c.num.1, .int .i64 c.num.2, .slice a4 c.ents.length c4, .slice a5 c.elems.length c5, .slice a6 c.seen.length c6] by unfold cval; rw [HK.out]]
    have F4 := F3.next f4
    have z4 := f4.size
    have B4 := f4.obj B3 id
    have C4 := f4.obj C3 id
    have D4 := f4.obj D3 id
    clear hcp p0 p1 p2 p3 p4 p5 p6 p7 p8 p9 B3 C3 F3
    have hone : ∀ (v1 v2 v3 : Value), v1.oneCell' = true → v2.oneCell' = true → v3.oneCell' = true → ∀ u ∈ [Value.int .i64 2, .bool c.set, .int .i64 c.st.1, .int .i64 c.st.2, .string c.value, .int .i64 c.num.1, .int .i64 c.num.2, v1, v2, v3], u.oneCell' = true := by
      intro v1 v2 v3 h1 h2 h3 u hu
      simp only [List.mem_cons, List.not_mem_nil, or_false] at hu
      rcases hu with rfl | rfl | rfl | rfl | rfl | rfl | rfl | rfl | rfl | rfl <;> first | rfl | assumption
    go_wp2_with (refine wpList_sto _ rfl (.tmp 3) (.tmp 41) 75 rfl B4 (by kernel_rfl) (by rfl) (hone (.slice a4 c.ents.length c4) (.slice a5 c.elems.length c5) (.slice a6 c.seen.length c6) rfl rfl rfl) rfl rfl ?_)
    intro w5 B5 f5 z5
    have C5 := f5.obj C4 (by omega)
    have D5 := f5.obj D4 (by omega)
    have q7 : w5.cell? ⟨w.heap.size, 7, none⟩ = some (.slice a4 c.ents.length c4) := obj_cell B5 7
    have d0 : w5.cell? ⟨w.heap.size + 1, 0, none⟩ = some (.int .i64 d.1) := obj_cell D5 0
    have d1 : w5.cell? ⟨w.heap.size + 1, 1, none⟩ = some (.int .i64 d.2) := obj_cell D5 1
    have n5 : w.heap.size < w5.heap.size := lt_of_block B5
    have hty : ∀ t k, Ty w4 t (Nw No w3 w4) k → w3.heap.size ≤ k ∧ k < w4.heap.size := fun t k h => by rcases h.1 with hk | hk; exact hk.elim; exact hk
    have o5 := o4.e.ty.frm f5 fun k hk e => by have := hty _ k hk; omega
    have l5 := o4.l.ty.frm f5 fun k hk e => by have := hty _ k hk; omega
    have s5 := o4.s.ty.frm f5 fun k hk e => by have := hty _ k hk; omega
    have hnF : ¬ Ty w4 98 (Nw No w3 w4) w4.heap.size := fun hk => by have := hty _ _ hk; omega
    go_wp2_with (fail)
    have hins := insert_ok (o5.al (.cells #[.int .i64 d.1, .int .i64 d.2, .string v] 98)) (g := w4.heap.size) (x := (d.1, d.2, v)) (by rw [← z5]; exact heap_alloc_new w5 _) hnF hqn hroom
    refine hins.mono ?_
    rintro e w6 ⟨a7, c7, rfl, o6, f6⟩
    clear hins d0 d1 q7 n5
    have hN : ∀ k, k < w3.heap.size → ¬ Ty w4 98 (Nw No w3 w4) k := fun k hk h => by have := hty _ _ h; omega
    have l6 := (l5.al (.cells #[.int .i64 d.1, .int .i64 d.2, .string v] 98)).frm f6 fun k hk => hk.apart (by decide)
    have s6 := (s5.al (.cells #[.int .i64 d.1, .int .i64 d.2, .string v] 98)).frm f6 fun k hk => hk.apart (by decide)
    have B6 := f6.obj (al_old B5) (hN _ n30)
    have C6 := f6.obj (al_old C5) (hN _ n3)
    have z6 : w4.heap.size + 1 ≤ w6.heap.size := by have := f6.size; simp at this; omega
    have n6 : w.heap.size < w6.heap.size := lt_of_block B6
    obtain ⟨q0, q1, q2, q3, q4, q5, q6, q7, q8, q9⟩ := obj10 B6
    have r3 := obj_frz B6
    go_wp2_with (refine wpList_sto _ rfl (.tmp 6) (.tmp 51) 75 rfl (obj_setCell_ne C6 (by omega) (.slice a7 (c.ents.length + 1) c7)) (by kernel_rfl) (by rfl) (hone (.slice a7 (c.ents.length + 1) c7) (.slice a5 c.elems.length c5) (.slice a6 c.seen.length c6) rfl rfl rfl) rfl rfl ?_)
    intro w7 C7 f7 z7
    obtain ⟨t0, t1, t2, t3, t4, t5, t6, t7, t8, t9⟩ := obj10 C7
    clear q0 q1 q2 q3 q4 q5 q6 q7 q8 q9 r3
    go_wp2
    refine bodyPost_ret (v := .tuple #[.agg #[.int .i64 2, .bool c.set, .int .i64 c.st.1, .int .i64 c.st.2, .string c.value, .int .i64 c.num.1, .int .i64 c.num.2, .slice a7 (c.ents.length + 1) c7, .slice a5 c.elems.length c5, .slice a6 c.seen.length c6], .int .i64 0]) (by simp [results, Tryz.results72, go_sem, *]) rfl ?_
    have hlen : (putEn c.ents d v).length = c.ents.length + 1 := by
      unfold putEn
      rw [← hq.out, List.length_append, List.length_cons, List.length_take, List.length_drop]; omega
    have hpe : putEn c.ents d v = c.ents.take q ++ (d.1, d.2, v) :: c.ents.drop q := by unfold putEn; rw [← hq.out]
    have G67 : Frm (fun k => w.heap.size ≤ k ∧ k < w.heap.size + 3) w6 w7 := (Frm.setCell (F := fun k => w.heap.size ≤ k ∧ k < w.heap.size + 3) w6 ⟨w.heap.size, 7, none⟩ (.slice a7 (c.ents.length + 1) c7) (by show w.heap.size ≤ w.heap.size ∧ w.heap.size < w.heap.size + 3; omega)).trans (f7.mono fun k _ hk => by omega)
    have hG2 : ∀ k, w.heap.size + 3 ≤ k → ¬ (w.heap.size ≤ k ∧ k < w.heap.size + 3) := fun k h => by omega
    have G57 : Frm (fun k => w.heap.size ≤ k) w5 w7 := (((Frm.refl _ w5).al _).trans (f6.mono fun k _ h => by have := hty _ _ h; omega)).trans (G67.mono fun k _ h => h.1)
    have z67 : w7.heap.size = w6.heap.size := z7
    have e1 : Ow w7 (fun k => w.heap.size + 3 ≤ k) 98 eEn (.slice a7 (c.ents.length + 1) c7) (putEn c.ents d v) := by
      rw [hpe]
      refine (o6.mono (G := fun k => w.heap.size + 3 ≤ k) fun k hk h => ?_).frm G67 hG2
      rcases h with h | h
      · have := hty _ _ h; omega
      · have := h.1; simp at this; omega
    have l7 := (l6.mono (G := fun k => w.heap.size + 3 ≤ k) fun k hk h => by have := hty _ _ h; omega).frm G67 hG2
    have s7 := (s6.mono (G := fun k => w.heap.size + 3 ≤ k) fun k hk h => by have := hty _ _ h; omega).frm G67 hG2
    refine ⟨.slice a7 (c.ents.length + 1) c7, _, _, ?_, ⟨e1.fin (by omega), l7.fin (by omega), s7.fin (by omega)⟩, (F4.then f5 fun k hk h => by omega).then G57 fun k hk hh => by omega⟩
    unfold cval
    dsimp only
    rw [HK.out]
  · subst hz1
    subst hz2
    go_wp2_with (fail)
    refine hcp.mono ?_
    rintro e w4 ⟨ve', vl', vs', rfl, o4, f4⟩
    obtain ⟨a4, c4, rfl⟩ := o4.e.sh
    obtain ⟨a5, c5, rfl⟩ := o4.l.sh
    obtain ⟨a6, c6, rfl⟩ := o4.s.sh
    rw [show cval c (.slice a4 c.ents.length c4) (.slice a5 c.elems.length c5) (.slice a6 c.seen.length c6) = .agg #[.int .i64 2, .bool c.set, .int .i64 c.st.1, .int .i64 c.st.2, .string c.value, .int .i64 c.num.1, .int .i64 c.num.2, .slice a4 c.ents.length c4, .slice a5 c.elems.length c5, .slice a6 c.seen.length c6] by unfold cval; rw [HK.out]]
    have F4 := F3.next f4
    have z4 := f4.size
    have B4 := f4.obj B3 id
    have C4 := f4.obj C3 id
    have D4 := f4.obj D3 id
    clear hcp p0 p1 p2 p3 p4 p5 p6 p7 p8 p9 B3 C3 F3
    have hone : ∀ (v1 v2 v3 : Value), v1.oneCell' = true → v2.oneCell' = true → v3.oneCell' = true → ∀ u ∈ [Value.int .i64 2, .bool c.set, .int .i64 c.st.1, .int .i64 c.st.2, .string c.value, .int .i64 c.num.1, .int .i64 c.num.2, v1, v2, v3], u.oneCell' = true := by
      intro v1 v2 v3 h1 h2 h3 u hu
      simp only [List.mem_cons, List.not_mem_nil, or_false] at hu
      rcases hu with rfl | rfl | rfl | rfl | rfl | rfl | rfl | rfl | rfl | rfl <;> first | rfl | assumption
    go_wp2_with (refine wpList_sto _ rfl (.tmp 3) (.tmp 41) 75 rfl B4 (by kernel_rfl) (by rfl) (hone (.slice a4 c.ents.length c4) (.slice a5 c.elems.length c5) (.slice a6 c.seen.length c6) rfl rfl rfl) rfl rfl ?_)
    intro w5 B5 f5 z5
    have C5 := f5.obj C4 (by omega)
    have D5 := f5.obj D4 (by omega)
    have q7 : w5.cell? ⟨w.heap.size, 7, none⟩ = some (.slice a4 c.ents.length c4) := obj_cell B5 7
    have d0 : w5.cell? ⟨w.heap.size + 1, 0, none⟩ = some (.int .i64 d.1) := obj_cell D5 0
    have d1 : w5.cell? ⟨w.heap.size + 1, 1, none⟩ = some (.int .i64 d.2) := obj_cell D5 1
    have n5 : w.heap.size < w5.heap.size := lt_of_block B5
    have hty : ∀ t k, Ty w4 t (Nw No w3 w4) k → w3.heap.size ≤ k ∧ k < w4.heap.size := fun t k h => by rcases h.1 with hk | hk; exact hk.elim; exact hk
    have o5 := o4.e.ty.frm f5 fun k hk e => by have := hty _ k hk; omega
    have l5 := o4.l.ty.frm f5 fun k hk e => by have := hty _ k hk; omega
    have s5 := o4.s.ty.frm f5 fun k hk e => by have := hty _ k hk; omega
    have hnF : ¬ Ty w4 98 (Nw No w3 w4) w4.heap.size := fun hk => by have := hty _ _ hk; omega
    go_wp2_with (fail)
    have hins := insert_ok (o5.al (.cells #[.int .i64 d.1, .int .i64 d.2, .string v] 98)) (g := w4.heap.size) (x := (d.1, d.2, v)) (by rw [← z5]; exact heap_alloc_new w5 _) hnF (Nat.le_refl _) hroom
    refine hins.mono ?_
    rintro e w6 ⟨a7, c7, rfl, o6, f6⟩
    clear hins d0 d1 q7 n5
    have hN : ∀ k, k < w3.heap.size → ¬ Ty w4 98 (Nw No w3 w4) k := fun k hk h => by have := hty _ _ h; omega
    have l6 := (l5.al (.cells #[.int .i64 d.1, .int .i64 d.2, .string v] 98)).frm f6 fun k hk => hk.apart (by decide)
    have s6 := (s5.al (.cells #[.int .i64 d.1, .int .i64 d.2, .string v] 98)).frm f6 fun k hk => hk.apart (by decide)
    have B6 := f6.obj (al_old B5) (hN _ n30)
    have C6 := f6.obj (al_old C5) (hN _ n3)
    have z6 : w4.heap.size + 1 ≤ w6.heap.size := by have := f6.size; simp at this; omega
    have n6 : w.heap.size < w6.heap.size := lt_of_block B6
    obtain ⟨q0, q1, q2, q3, q4, q5, q6, q7, q8, q9⟩ := obj10 B6
    have r3 := obj_frz B6
    go_wp2_with (refine wpList_sto _ rfl (.tmp 6) (.tmp 51) 75 rfl (obj_setCell_ne C6 (by omega) (.slice a7 (c.ents.length + 1) c7)) (by kernel_rfl) (by rfl) (hone (.slice a7 (c.ents.length + 1) c7) (.slice a5 c.elems.length c5) (.slice a6 c.seen.length c6) rfl rfl rfl) rfl rfl ?_)
    intro w7 C7 f7 z7
    obtain ⟨t0, t1, t2, t3, t4, t5, t6, t7, t8, t9⟩ := obj10 C7
    clear q0 q1 q2 q3 q4 q5 q6 q7 q8 q9 r3
    go_wp2
    refine bodyPost_ret (v := .tuple #[.agg #[.int .i64 2, .bool c.set, .int .i64 c.st.1, .int .i64 c.st.2, .string c.value, .int .i64 c.num.1, .int .i64 c.num.2, .slice a7 (c.ents.length + 1) c7, .slice a5 c.elems.length c5, .slice a6 c.seen.length c6], .int .i64 0]) (by simp [results, Tryz.results72, go_sem, *]) rfl ?_
    have hlen : (putEn c.ents d v).length = c.ents.length + 1 := by
      unfold putEn
      rw [← hq.out, List.length_append, List.length_cons, List.length_take, List.length_drop]; omega
    have hpe : putEn c.ents d v = c.ents.take c.ents.length ++ (d.1, d.2, v) :: c.ents.drop c.ents.length := by unfold putEn; rw [← hq.out]
    have G67 : Frm (fun k => w.heap.size ≤ k ∧ k < w.heap.size + 3) w6 w7 := (Frm.setCell (F := fun k => w.heap.size ≤ k ∧ k < w.heap.size + 3) w6 ⟨w.heap.size, 7, none⟩ (.slice a7 (c.ents.length + 1) c7) (by show w.heap.size ≤ w.heap.size ∧ w.heap.size < w.heap.size + 3; omega)).trans (f7.mono fun k _ hk => by omega)
    have hG2 : ∀ k, w.heap.size + 3 ≤ k → ¬ (w.heap.size ≤ k ∧ k < w.heap.size + 3) := fun k h => by omega
    have G57 : Frm (fun k => w.heap.size ≤ k) w5 w7 := (((Frm.refl _ w5).al _).trans (f6.mono fun k _ h => by have := hty _ _ h; omega)).trans (G67.mono fun k _ h => h.1)
    have z67 : w7.heap.size = w6.heap.size := z7
    have e1 : Ow w7 (fun k => w.heap.size + 3 ≤ k) 98 eEn (.slice a7 (c.ents.length + 1) c7) (putEn c.ents d v) := by
      rw [hpe]
      refine (o6.mono (G := fun k => w.heap.size + 3 ≤ k) fun k hk h => ?_).frm G67 hG2
      rcases h with h | h
      · have := hty _ _ h; omega
      · have := h.1; simp at this; omega
    have l7 := (l6.mono (G := fun k => w.heap.size + 3 ≤ k) fun k hk h => by have := hty _ _ h; omega).frm G67 hG2
    have s7 := (s6.mono (G := fun k => w.heap.size + 3 ≤ k) fun k hk h => by have := hty _ _ h; omega).frm G67 hG2
    refine ⟨.slice a7 (c.ents.length + 1) c7, _, _, ?_, ⟨e1.fin (by omega), l7.fin (by omega), s7.fin (by omega)⟩, (F4.then f5 fun k hk h => by omega).then G57 fun k hk hh => by omega⟩
    unfold cval
    dsimp only
    rw [HK.out]
end Go.Proofs.YtgpdpalhkkjmiaaGreatDoor

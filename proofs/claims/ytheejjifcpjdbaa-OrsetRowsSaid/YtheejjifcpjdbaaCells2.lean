/- Cells: how they are told; copies. -/
import Derived.Test.YtheejjifcpjdbaaCells1
namespace Go.Proofs.Ytheejjifcpjdbaa
set_option linter.unusedVariables false
set_option linter.unusedSimpArgs false
open Go.RowKit Go.Lib Go.Tt
structure CellV where
  kind : Int
  set : Bool
  st : Int × Int
  value : ByteArray
  num : Int × Int
  ents : List En
  elems : List El
  seen : List Int
/-- A cell's value: its three slices are given. -/
def cval (c : CellV) (ve vl vs : Value) : Value := .agg #[.int .i64 c.kind, .bool c.set, .int .i64 c.st.1, .int .i64 c.st.2, .string c.value, .int .i64 c.num.1, .int .i64 c.num.2, ve, vl, vs]
/-- A cell's slices read. -/
structure CellR (w : World) (c : CellV) (ve vl vs : Value) : Prop where
  e : RdS w eEn ve c.ents
  l : RdS w eEl vl c.elems
  s : RdS w eInt vs c.seen
/-- A cell's slices are the call's own. -/
structure CellO (w : World) (F : Nat → Prop) (c : CellV) (ve vl vs : Value) : Prop where
  e : Ow w F 90 eEn ve c.ents
  l : Ow w F 111 eEl vl c.elems
  s : Ow w F 3 eInt vs c.seen
/-- A cell is no greater than what may be copied. -/
structure CellB (c : CellV) : Prop where
  e : c.ents.length * 32 ≤ reachBytes
  l : c.elems.length * 48 ≤ reachBytes
  s : c.seen.length * 8 ≤ reachBytes
theorem CellO.rd {w : World} {F : Nat → Prop} {c : CellV} {ve vl vs : Value} (h : CellO w F c ve vl vs) : CellR w c ve vl vs := ⟨h.e.rd, h.l.rd, h.s.rd⟩
theorem CellO.mono {w : World} {F G : Nat → Prop} {c : CellV} {ve vl vs : Value} (h : CellO w F c ve vl vs) (hs : ∀ k, k < w.heap.size → F k → G k) : CellO w G c ve vl vs := ⟨h.e.mono hs, h.l.mono hs, h.s.mono hs⟩
theorem CellO.frm {w w' : World} {F G : Nat → Prop} {c : CellV} {ve vl vs : Value} (h : CellO w F c ve vl vs) (hf : Frm G w w') (hd : ∀ k, F k → ¬ G k) : CellO w' F c ve vl vs := ⟨h.e.frm hf hd, h.l.frm hf hd, h.s.frm hf hd⟩
theorem CellR.below {B : Nat} {w w' : World} {c : CellV} {ve vl vs : Value} (h : CellR w c ve vl vs) (hb : Below w.heap.size w w') : CellR w' c ve vl vs :=
  ⟨h.e.below hb fun _ hg => h.e.blk_lt hg, h.l.below hb fun _ hg => h.l.blk_lt hg, h.s.below hb fun _ hg => h.s.blk_lt hg⟩
theorem CellR.no {w w' : World} {c : CellV} {ve vl vs : Value} (h : CellR w c ve vl vs) (f : Frm No w w') : CellR w' c ve vl vs :=
  ⟨h.e.frm f fun _ _ h => h, h.l.frm f fun _ _ h => h, h.s.frm f fun _ _ h => h⟩

theorem cellO_fin {w w3 w' : World} {M : Nat} {c : CellV} {ve vl vs : Value} (h1 : Ow w3 (fun k => M ≤ k) 90 eEn ve c.ents) (h2 : Ow w3 (fun k => M ≤ k) 111 eEl vl c.elems) (h3 : Ow w3 (fun k => M ≤ k) 3 eInt vs c.seen)
    (f : Frm (fun k => k < M) w3 w') (hM : w.heap.size ≤ M) : CellO w' (Nw No w w') c ve vl vs :=
  ⟨(h1.frm f fun _ hk => Nat.not_lt.2 hk).fin hM, (h2.frm f fun _ hk => Nat.not_lt.2 hk).fin hM, (h3.frm f fun _ hk => Nat.not_lt.2 hk).fin hM⟩
set_option maxHeartbeats 1000000 in
set_option maxRecDepth 100000 in
theorem copyCell_ok {w : World} {c : CellV} {ve vl vs : Value} (h : CellR w c ve vl vs) (hb : CellB c) :
    Calls Try.prog 39 #[cval c ve vl vs] w fun e w' => ∃ ve' vl' vs', e = .returned (cval c ve' vl' vs') ∧ CellO w' (Nw No w w') c ve' vl' vs' ∧ Frm No w w' := by
  obtain ⟨he, hl, hs⟩ := h
  obtain ⟨ae, ce, rfl⟩ := he.sh
  obtain ⟨al, cl, rfl⟩ := hl.sh
  obtain ⟨at_, cs, rfl⟩ := hs.sh
  obtain ⟨b1, b2, b3⟩ := hb
  unfold reachBytes at b1 b2 b3
  unfold cval
  go_enter Try.func39, Try.ntmps39
  go_wp2_with (at_builtin; refine wpList_ap _ rfl (.tmp 3) (.tmp 5) 56 56 rfl 90 _ 32 Try.underlying56 i_en rfl (Ow.nil _ No _ eEn _) ((he.no ((((Frm.refl No w).al _).al _).al _)).src Try.underlying56) rfl rfl rfl ?_ ?_ ?_)
  · unfold maxLen; simp; omega
  · simp; omega
  intro a1 c1 w1 o1 f1
  have g1 : Frm No w w1 := ((((Frm.refl No w).al _).al _).al _).trans f1
  have B1 := f1.obj (al_old (al_old (heap_alloc_new w _))) id
  have C1 := f1.obj (al_old (heap_alloc_new (w.alloc _) _)) id
  rw [show (w.alloc (.cells #[.int .i64 c.kind, .bool c.set, .int .i64 c.st.1, .int .i64 c.st.2, .string c.value, .int .i64 c.num.1, .int .i64 c.num.2, .slice ae c.ents.length ce, .slice al c.elems.length cl, .slice at_ c.seen.length cs] 59)).heap.size = w.heap.size + 1 by simp] at C1
  obtain ⟨q10, q11, q12, q13, q14, q15, q16, q17, q18, q19⟩ := obj10 B1
  have r1 := obj_frz B1
  replace o1 := o1.from (w.heap.size + 3) (by simp)
  have z1 : w.heap.size + 3 ≤ w1.heap.size := by have := f1.size; simpa using this
  clear f1
  have n1 : w.heap.size < w1.heap.size := by omega

  go_wp2_with (at_builtin; refine wpList_ap _ rfl (.tmp 8) (.tmp 10) 57 57 rfl 111 _ 48 Try.underlying57 i_el rfl (Ow.nil _ No _ eEl _) ((hl.no ((g1.st (Nat.le_refl _) _ _).al _)).src Try.underlying57) rfl rfl rfl ?_ ?_ ?_)
  · unfold maxLen; simp; omega
  · simp; omega
  intro a2 c2 w2 o2 f2
  have g2 : Frm No w w2 := ((g1.st (Nat.le_refl _) _ _).al _).trans f2
  have C2 := f2.obj (al_old (obj_setCell_ne C1 (by omega) _)) id
  have B2 := f2.obj (al_old (obj_setCell B1 _)) id
  replace o1 := ((o1.st (b := w.heap.size) (by omega) 7 (.slice a1 c.ents.length c1)).al (.cells #[] 111)).no f2
  replace o2 := o2.from (w.heap.size + 3) (by simp; omega)
  have z2 : w.heap.size + 3 ≤ w2.heap.size := by have := f2.size; simp at this; omega
  clear f2 q10 q11 q12 q13 q14 q15 q16 q17 q18 q19 r1 n1 B1
  have n2 : w.heap.size < w2.heap.size := by omega
  simp only [List.setIfInBounds_toArray, List.set_cons_zero, List.set_cons_succ] at B2
  obtain ⟨q20, q21, q22, q23, q24, q25, q26, q27, q28, q29⟩ := obj10 B2
  have r2 := obj_frz B2
  go_wp2_with (at_builtin; refine wpList_ap _ rfl (.tmp 13) (.tmp 15) 49 49 rfl 3 _ 8 Try.underlying49 i_int rfl (Ow.nil _ No _ eInt _) ((hs.no ((g2.st (Nat.le_refl _) _ _).al _)).src Try.underlying49) rfl rfl rfl ?_ ?_ ?_)
  · unfold maxLen; simp; omega
  · simp; omega
  intro a3 c3 w3 o3 f3
  have g3 : Frm No w w3 := ((g2.st (Nat.le_refl _) _ _).al _).trans f3
  have C3 := f3.obj (al_old (obj_setCell_ne C2 (by omega) _)) id
  have B3 := f3.obj (al_old (obj_setCell B2 _)) id
  replace o1 := ((o1.st (b := w.heap.size) (by omega) 8 (.slice a2 c.elems.length c2)).al (.cells #[] 3)).no f3
  replace o2 := ((o2.st (b := w.heap.size) (by omega) 8 (.slice a2 c.elems.length c2)).al (.cells #[] 3)).no f3
  replace o3 := o3.from (w.heap.size + 3) (by simp; omega)
  clear f3 q20 q21 q22 q23 q24 q25 q26 q27 q28 q29 r2 n2 B2
  simp only [List.setIfInBounds_toArray, List.set_cons_zero, List.set_cons_succ] at B3
  obtain ⟨q30, q31, q32, q33, q34, q35, q36, q37, q38, q39⟩ := obj10 B3
  have r3 := obj_frz B3
  have n3 : w.heap.size < w3.heap.size := lt_of_block B3
  obtain ⟨p30, p31, p32, p33, p34, p35, p36, p37, p38, p39⟩ := obj10 C3
  have r4 := obj_frz C3
  have n4 : w.heap.size + 1 < w3.heap.size := lt_of_block C3
  clear C1 C2 B3 C3
  go_wp2
  refine bodyPost_ret (v := .agg #[.int .i64 c.kind, .bool c.set, .int .i64 c.st.1, .int .i64 c.st.2, .string c.value, .int .i64 c.num.1, .int .i64 c.num.2, .slice a1 c.ents.length c1, .slice a2 c.elems.length c2, .slice a3 c.seen.length c3]) (by simp [results, Try.results39, go_sem, *]) rfl ?_
  refine ⟨_, _, _, rfl, cellO_fin (M := w.heap.size + 3) o1 o2 o3 ?_ (by omega), ?_⟩
  · iterate 11 refine Frm.sc (F := fun k => k < w.heap.size + 3) ?_ (by show _ < _; omega) _ _
    exact Frm.refl _ _
  · iterate 11 refine Frm.st ?_ (by omega) _ _
    exact g3
end Go.Proofs.Ytheejjifcpjdbaa

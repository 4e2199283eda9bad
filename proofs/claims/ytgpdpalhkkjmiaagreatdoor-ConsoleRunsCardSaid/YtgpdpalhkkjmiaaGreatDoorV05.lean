/- Merged: Cells0 Cells1 Cells2 Cells3. -/
import Derived.Test.YtgpdpalhkkjmiaaGreatDoorProg
import Derived.Deep.LoopGhost
import Derived.Lib.LazyBuf
import Derived.Test.YtgpdpalhkkjmiaaGreatDoorV02
import Derived.Test.YtgpdpalhkkjmiaaGreatDoorV04
/- The elements of cells: dots, entries, elements of lists; how they are told by their cells. -/
namespace Go.Proofs.YtgpdpalhkkjmiaaGreatDoor
set_option linter.unusedVariables false
set_option linter.unusedSimpArgs false
set_option linter.unusedVariables false
set_option linter.unusedSimpArgs false
open Go.RowKit Go.Lib Go.Tt

abbrev Dt := Int × Int
abbrev En := Int × Int × ByteArray
abbrev El := Int × Int × Int × ByteArray × Bool
def eInt : Enc Int := ⟨1, fun n => [.int .i64 n], fun _ => rfl, fun x u hu => by simp at hu; subst hu; rfl, by decide⟩
def eStr : Enc ByteArray := ⟨1, fun s => [.string s], fun _ => rfl, fun x u hu => by simp at hu; subst hu; rfl, by decide⟩
def eDt : Enc Dt := ⟨2, fun d => [.int .i64 d.1, .int .i64 d.2], fun _ => rfl, fun x u hu => by simp at hu; rcases hu with rfl | rfl <;> rfl, by decide⟩
def eEn : Enc En := ⟨3, fun d => [.int .i64 d.1, .int .i64 d.2.1, .string d.2.2], fun _ => rfl, fun x u hu => by simp at hu; rcases hu with rfl | rfl | rfl <;> rfl, by decide⟩
def eEl : Enc El := ⟨5, fun d => [.int .i64 d.1, .int .i64 d.2.1, .int .i64 d.2.2.1, .string d.2.2.2.1, .bool d.2.2.2.2], fun _ => rfl, fun x u hu => by simp at hu; rcases hu with rfl | rfl | rfl | rfl | rfl <;> rfl, by decide⟩

theorem i_int : (Tryz.prog.info? 3).map (fun i => (i.zero, i.size, i.bytes)) = some (some (.int .i64 0), eInt.k, 8) := by kernel_rfl
theorem i_str : (Tryz.prog.info? 9).map (fun i => (i.zero, i.size, i.bytes)) = some (some (.string ByteArray.empty), eStr.k, 16) := by kernel_rfl
theorem i_dt : (Tryz.prog.info? 83).map (fun i => (i.zero, i.size, i.bytes)) = some (some (.agg #[.int .i64 0, .int .i64 0]), eDt.k, 16) := by kernel_rfl
theorem i_en : (Tryz.prog.info? 98).map (fun i => (i.zero, i.size, i.bytes)) = some (some (.agg #[.int .i64 0, .int .i64 0, .string ByteArray.empty]), eEn.k, 32) := by kernel_rfl
theorem i_el : (Tryz.prog.info? 91).map (fun i => (i.zero, i.size, i.bytes)) = some (some (.agg #[.int .i64 0, .int .i64 0, .int .i64 0, .string ByteArray.empty, .bool false]), eEl.k, 48) := by kernel_rfl

end Go.Proofs.YtgpdpalhkkjmiaaGreatDoor

/- The words of tattlelaw0 over texts and numbers. -/
namespace Go.Proofs.YtgpdpalhkkjmiaaGreatDoor
set_option linter.unusedVariables false
set_option linter.unusedSimpArgs false
open Go.RowKit Go.Lib Go.Tt
end Go.Proofs.YtgpdpalhkkjmiaaGreatDoor

/- Cells: how they are told; copies. -/
namespace Go.Proofs.YtgpdpalhkkjmiaaGreatDoor
set_option linter.unusedVariables false
set_option linter.unusedSimpArgs false
open Go.RowKit Go.Lib Go.Tt
structure CellV where
  kind : Int
  set : Bool
  st : Int × Int
  value : ByteArray
  num : Int × Int
  ents : List En
  elems : List El
  seen : List Int
/-- A cell's value: its three slices are given. -/
def cval (c : CellV) (ve vl vs : Value) : Value := .agg #[.int .i64 c.kind, .bool c.set, .int .i64 c.st.1, .int .i64 c.st.2, .string c.value, .int .i64 c.num.1, .int .i64 c.num.2, ve, vl, vs]
/-- A cell's slices read. -/
structure CellR (w : World) (c : CellV) (ve vl vs : Value) : Prop where
  e : RdS w eEn ve c.ents
  l : RdS w eEl vl c.elems
  s : RdS w eInt vs c.seen
/-- A cell's slices are the call's own. -/
structure CellO (w : World) (F : Nat → Prop) (c : CellV) (ve vl vs : Value) : Prop where
  e : Ow w F 98 eEn ve c.ents
  l : Ow w F 91 eEl vl c.elems
  s : Ow w F 3 eInt vs c.seen
/-- A cell is no greater than what may be copied. -/
structure CellB (c : CellV) : Prop where
  e : c.ents.length * 32 ≤ reachBytes
  l : c.elems.length * 48 ≤ reachBytes
  s : c.seen.length * 8 ≤ reachBytes
theorem CellO.rd {w : World} {F : Nat → Prop} {c : CellV} {ve vl vs : Value} (h : CellO w F c ve vl vs) : CellR w c ve vl vs := ⟨h.e.rd, h.l.rd, h.s.rd⟩
theorem CellO.mono {w : World} {F G : Nat → Prop} {c : CellV} {ve vl vs : Value} (h : CellO w F c ve vl vs) (hs : ∀ k, k < w.heap.size → F k → G k) : CellO w G c ve vl vs := ⟨h.e.mono hs, h.l.mono hs, h.s.mono hs⟩
theorem CellO.frm {w w' : World} {F G : Nat → Prop} {c : CellV} {ve vl vs : Value} (h : CellO w F c ve vl vs) (hf : Frm G w w') (hd : ∀ k, F k → ¬ G k) : CellO w' F c ve vl vs := ⟨h.e.frm hf hd, h.l.frm hf hd, h.s.frm hf hd⟩
theorem CellR.below {B : Nat} {w w' : World} {c : CellV} {ve vl vs : Value} (h : CellR w c ve vl vs) (hb : Below w.heap.size w w') : CellR w' c ve vl vs :=
  ⟨h.e.below hb fun _ hg => h.e.blk_lt hg, h.l.below hb fun _ hg => h.l.blk_lt hg, h.s.below hb fun _ hg => h.s.blk_lt hg⟩
theorem CellR.no {w w' : World} {c : CellV} {ve vl vs : Value} (h : CellR w c ve vl vs) (f : Frm No w w') : CellR w' c ve vl vs :=
  ⟨h.e.frm f fun _ _ h => h, h.l.frm f fun _ _ h => h, h.s.frm f fun _ _ h => h⟩

theorem cellO_fin {w w3 w' : World} {M : Nat} {c : CellV} {ve vl vs : Value} (h1 : Ow w3 (fun k => M ≤ k) 98 eEn ve c.ents) (h2 : Ow w3 (fun k => M ≤ k) 91 eEl vl c.elems) (h3 : Ow w3 (fun k => M ≤ k) 3 eInt vs c.seen)
    (f : Frm (fun k => k < M) w3 w') (hM : w.heap.size ≤ M) : CellO w' (Nw No w w') c ve vl vs :=
  ⟨(h1.frm f fun _ hk => Nat.not_lt.2 hk).fin hM, (h2.frm f fun _ hk => Nat.not_lt.2 hk).fin hM, (h3.frm f fun _ hk => Nat.not_lt.2 hk).fin hM⟩
end Go.Proofs.YtgpdpalhkkjmiaaGreatDoor

/- Cells: the copies of package lww and of the document's answer. -/
namespace Go.Proofs.YtgpdpalhkkjmiaaGreatDoor
set_option linter.unusedVariables false
set_option linter.unusedSimpArgs false
open Go.RowKit Go.Lib Go.Tt
set_option maxHeartbeats 1000000 in
set_option maxRecDepth 100000 in
theorem refCopy_ok {w : World} {c : CellV} {ve vl vs : Value} (h : CellR w c ve vl vs) (hb : CellB c) :
    Calls Tryz.prog 54 #[cval c ve vl vs] w fun e w' => ∃ ve' vl' vs', e = .returned (cval c ve' vl' vs') ∧ CellO w' (Nw No w w') c ve' vl' vs' ∧ Frm No w w' := by
  obtain ⟨he, hl, hs⟩ := h
  obtain ⟨ae, ce, rfl⟩ := he.sh
  obtain ⟨al, cl, rfl⟩ := hl.sh
  obtain ⟨at_, cs, rfl⟩ := hs.sh
  obtain ⟨b1, b2, b3⟩ := hb
  unfold reachBytes at b1 b2 b3
  unfold cval
  go_enter Tryz.func54, Tryz.ntmps54
  go_wp2_with (at_builtin; refine wpList_ap _ rfl (.tmp 3) (.tmp 5) 72 72 rfl 98 _ 32 Tryz.underlying72 i_en rfl (Ow.nil _ No _ eEn _) ((he.no ((((Frm.refl No w).al _).al _).al _)).src Tryz.underlying72) rfl rfl rfl ?_ ?_ ?_)
  · unfold maxLen; simp; omega
  · simp; omega
  intro a1 c1 w1 o1 f1
  have g1 : Frm No w w1 := ((((Frm.refl No w).al _).al _).al _).trans f1
  have B1 := f1.obj (al_old (al_old (heap_alloc_new w _))) id
  have C1 := f1.obj (al_old (heap_alloc_new (w.alloc _) _)) id
  rw [show (w.alloc (.cells #[.int .i64 c.kind, .bool c.set, .int .i64 c.st.1, .int .i64 c.st.2, .string c.value, .int .i64 c.num.1, .int .i64 c.num.2, .slice ae c.ents.length ce, .slice al c.elems.length cl, .slice at_ c.seen.length cs] 75)).heap.size = w.heap.size + 1 by simp] at C1
  obtain ⟨q10, q11, q12, q13, q14, q15, q16, q17, q18, q19⟩ := obj10 B1
  have r1 := obj_frz B1
  replace o1 := o1.from (w.heap.size + 3) (by simp)
  have z1 : w.heap.size + 3 ≤ w1.heap.size := by have := f1.size; simpa using this
  clear f1
  have n1 : w.heap.size < w1.heap.size := by omega

  go_wp2_with (at_builtin; refine wpList_ap _ rfl (.tmp 8) (.tmp 10) 73 73 rfl 91 _ 48 Tryz.underlying73 i_el rfl (Ow.nil _ No _ eEl _) ((hl.no ((g1.st (Nat.le_refl _) _ _).al _)).src Tryz.underlying73) rfl rfl rfl ?_ ?_ ?_)
  · unfold maxLen; simp; omega
  · simp; omega
  intro a2 c2 w2 o2 f2
  have g2 : Frm No w w2 := ((g1.st (Nat.le_refl _) _ _).al _).trans f2
  have C2 := f2.obj (al_old (obj_setCell_ne C1 (by omega) _)) id
  have B2 := f2.obj (al_old (obj_setCell B1 _)) id
  replace o1 := ((o1.st (b := w.heap.size) (by omega) 7 (.slice a1 c.ents.length c1)).al (.cells #[] 91)).no f2
  replace o2 := o2.from (w.heap.size + 3) (by simp; omega)
  have z2 : w.heap.size + 3 ≤ w2.heap.size := by have := f2.size; simp at this; omega
  clear f2 q10 q11 q12 q13 q14 q15 q16 q17 q18 q19 r1 n1 B1
  have n2 : w.heap.size < w2.heap.size := by omega
  simp only [List.setIfInBounds_toArray, List.set_cons_zero, List.set_cons_succ] at B2
  obtain ⟨q20, q21, q22, q23, q24, q25, q26, q27, q28, q29⟩ := obj10 B2
  have r2 := obj_frz B2
  go_wp2_with (at_builtin; refine wpList_ap _ rfl (.tmp 13) (.tmp 15) 33 33 rfl 3 _ 8 Tryz.underlying33 i_int rfl (Ow.nil _ No _ eInt _) ((hs.no ((g2.st (Nat.le_refl _) _ _).al _)).src Tryz.underlying33) rfl rfl rfl ?_ ?_ ?_)
  · unfold maxLen; simp; omega
  · simp; omega
  intro a3 c3 w3 o3 f3
  have g3 : Frm No w w3 := ((g2.st (Nat.le_refl _) _ _).al _).trans f3
  have C3 := f3.obj (al_old (obj_setCell_ne C2 (by omega) _)) id
  have B3 := f3.obj (al_old (obj_setCell B2 _)) id
  replace o1 := ((o1.st (b := w.heap.size) (by omega) 8 (.slice a2 c.elems.length c2)).al (.cells #[] 3)).no f3
  replace o2 := ((o2.st (b := w.heap.size) (by omega) 8 (.slice a2 c.elems.length c2)).al (.cells #[] 3)).no f3
  replace o3 := o3.from (w.heap.size + 3) (by simp; omega)
  clear f3 q20 q21 q22 q23 q24 q25 q26 q27 q28 q29 r2 n2 B2
  simp only [List.setIfInBounds_toArray, List.set_cons_zero, List.set_cons_succ] at B3
  obtain ⟨q30, q31, q32, q33, q34, q35, q36, q37, q38, q39⟩ := obj10 B3
  have r3 := obj_frz B3
  have n3 : w.heap.size < w3.heap.size := lt_of_block B3
  obtain ⟨p30, p31, p32, p33, p34, p35, p36, p37, p38, p39⟩ := obj10 C3
  have r4 := obj_frz C3
  have n4 : w.heap.size + 1 < w3.heap.size := lt_of_block C3
  clear C1 C2 B3 C3
  go_wp2
  refine bodyPost_ret (v := .agg #[.int .i64 c.kind, .bool c.set, .int .i64 c.st.1, .int .i64 c.st.2, .string c.value, .int .i64 c.num.1, .int .i64 c.num.2, .slice a1 c.ents.length c1, .slice a2 c.elems.length c2, .slice a3 c.seen.length c3]) (by simp [results, Tryz.results54, go_sem, *]) rfl ?_
  refine ⟨_, _, _, rfl, cellO_fin (M := w.heap.size + 3) o1 o2 o3 ?_ (by omega), ?_⟩
  · iterate 11 refine Frm.sc (F := fun k => k < w.heap.size + 3) ?_ (by show _ < _; omega) _ _
    exact Frm.refl _ _
  · iterate 11 refine Frm.st ?_ (by omega) _ _
    exact g3
set_option maxRecDepth 100000 in
theorem cloneEn_ok {w : World} {a : Option Addr} {n c : Nat} {l : List En} (h : RdS w eEn (.slice a n c) l) (hb : l.length * 32 ≤ reachBytes) :
    Calls Tryz.prog 133 #[.slice a n c] w fun e w' => ∃ a' c', e = .returned (.slice a' n c') ∧ Ow w' (Nw No w w') 98 eEn (.slice a' n c') l ∧ Frm No w w' := by
  obtain ⟨hn, hc1, -, hnil⟩ := h.facts
  have hb' : l.length * 32 ≤ 140737488351232 := hb
  have heq := fun W a n c => run_eql_slice_nil (P := Tryz.prog) W 72 98 a n c Tryz.underlying72
  cases a with
  | none =>
    obtain ⟨rfl, rfl⟩ := hnil rfl
    obtain rfl := List.eq_nil_of_length_eq_zero hn.symm
    clear h hb hb' hc1 hnil hn
    go_enter Tryz.func133, Tryz.ntmps133
    go_wp2
    go_ret
    exact ⟨none, 0, rfl, Ow.nil _ _ _ _ _, Frm.refl _ _⟩
  | some a =>
    subst hn
    have H := Lib.hid h
    clear hnil h hb
    go_enter Tryz.func133, Tryz.ntmps133
    go_wp2_with (at_builtin; refine wpList_ap _ rfl (.tmp 5) (.tmp 6) 72 72 rfl 98 _ 32 Tryz.underlying72 i_en rfl (Ow.nil _ No _ eEn _) ((H.out.alloc _).src Tryz.underlying72) rfl rfl rfl ?_ ?_ ?_)
    · unfold maxLen; simp; omega
    · simp; omega
    intro a' c' w1 o1 f1
    go_wp2
    go_ret
    exact ⟨a', c', rfl, o1.new f1 (by simp), (Frm.alloc No _ _).trans f1⟩
set_option maxRecDepth 100000 in
theorem cloneEl_ok {w : World} {a : Option Addr} {n c : Nat} {l : List El} (h : RdS w eEl (.slice a n c) l) (hb : l.length * 48 ≤ reachBytes) :
    Calls Tryz.prog 134 #[.slice a n c] w fun e w' => ∃ a' c', e = .returned (.slice a' n c') ∧ Ow w' (Nw No w w') 91 eEl (.slice a' n c') l ∧ Frm No w w' := by
  obtain ⟨hn, hc1, -, hnil⟩ := h.facts
  have hb' : l.length * 48 ≤ 140737488351232 := hb
  have heq := fun W a n c => run_eql_slice_nil (P := Tryz.prog) W 73 91 a n c Tryz.underlying73
  cases a with
  | none =>
    obtain ⟨rfl, rfl⟩ := hnil rfl
    obtain rfl := List.eq_nil_of_length_eq_zero hn.symm
    clear h hb hb' hc1 hnil hn
    go_enter Tryz.func134, Tryz.ntmps134
    go_wp2
    go_ret
    exact ⟨none, 0, rfl, Ow.nil _ _ _ _ _, Frm.refl _ _⟩
  | some a =>
    subst hn
    have H := Lib.hid h
    clear hnil h hb
    go_enter Tryz.func134, Tryz.ntmps134
    go_wp2_with (at_builtin; refine wpList_ap _ rfl (.tmp 5) (.tmp 6) 73 73 rfl 91 _ 48 Tryz.underlying73 i_el rfl (Ow.nil _ No _ eEl _) ((H.out.alloc _).src Tryz.underlying73) rfl rfl rfl ?_ ?_ ?_)
    · unfold maxLen; simp; omega
    · simp; omega
    intro a' c' w1 o1 f1
    go_wp2
    go_ret
    exact ⟨a', c', rfl, o1.new f1 (by simp), (Frm.alloc No _ _).trans f1⟩
set_option maxRecDepth 100000 in
theorem cloneInt_ok {w : World} {a : Option Addr} {n c : Nat} {l : List Int} (h : RdS w eInt (.slice a n c) l) (hb : l.length * 8 ≤ reachBytes) :
    Calls Tryz.prog 135 #[.slice a n c] w fun e w' => ∃ a' c', e = .returned (.slice a' n c') ∧ Ow w' (Nw No w w') 3 eInt (.slice a' n c') l ∧ Frm No w w' := by
  obtain ⟨hn, hc1, -, hnil⟩ := h.facts
  have hb' : l.length * 8 ≤ 140737488351232 := hb
  have heq := fun W a n c => run_eql_slice_nil (P := Tryz.prog) W 33 3 a n c Tryz.underlying33
  cases a with
  | none =>
    obtain ⟨rfl, rfl⟩ := hnil rfl
    obtain rfl := List.eq_nil_of_length_eq_zero hn.symm
    clear h hb hb' hc1 hnil hn
    go_enter Tryz.func135, Tryz.ntmps135
    go_wp2
    go_ret
    exact ⟨none, 0, rfl, Ow.nil _ _ _ _ _, Frm.refl _ _⟩
  | some a =>
    subst hn
    have H := Lib.hid h
    clear hnil h hb
    go_enter Tryz.func135, Tryz.ntmps135
    go_wp2_with (at_builtin; refine wpList_ap _ rfl (.tmp 5) (.tmp 6) 33 33 rfl 3 _ 8 Tryz.underlying33 i_int rfl (Ow.nil _ No _ eInt _) ((H.out.alloc _).src Tryz.underlying33) rfl rfl rfl ?_ ?_ ?_)
    · unfold maxLen; simp; omega
    · simp; omega
    intro a' c' w1 o1 f1
    go_wp2
    go_ret
    exact ⟨a', c', rfl, o1.new f1 (by simp), (Frm.alloc No _ _).trans f1⟩

set_option maxHeartbeats 1000000 in
set_option maxRecDepth 100000 in
theorem lwwCopy_ok {w : World} {c : CellV} {ve vl vs : Value} (h : CellR w c ve vl vs) (hb : CellB c) :
    Calls Tryz.prog 92 #[cval c ve vl vs] w fun e w' => ∃ ve' vl' vs', e = .returned (cval c ve' vl' vs') ∧ CellO w' (Nw No w w') c ve' vl' vs' ∧ Frm No w w' := by
  obtain ⟨he, hl, hs⟩ := h
  obtain ⟨ae, ce, rfl⟩ := he.sh
  obtain ⟨al, cl, rfl⟩ := hl.sh
  obtain ⟨at_, cs, rfl⟩ := hs.sh
  unfold cval
  go_enter Tryz.func92, Tryz.ntmps92
  go_wp2
  refine wp_region_plan [([0, 1, 3, 4, 6, 7, 2], [7, 4]), ([9, 5], [7]), ([8, 10, 11, 12, 13, 14], [])] 16 (by kernel_rfl) (by kernel_rfl) (by simp) ?_
  intro N hN
  simp only [wpSegs, List.map_cons, List.map_nil, List.getD_cons_zero, List.getD_cons_succ]
  go_wp2_with (fail)
  refine (cloneEn_ok (he.no ((((Frm.refl No w).al _).al _).trans (Frm.drew _ _))) hb.e).mono ?_
  rintro e w1 ⟨a1, c1, rfl, o1, f1⟩
  have g1 : Frm No w w1 := ((((Frm.refl No w).al _).al _).trans (Frm.drew _ _)).trans f1
  have B1 := f1.obj (al_old (heap_alloc_new w _)) id
  have C1 := f1.obj (heap_alloc_new (w.alloc _) _) id
  rw [show (w.alloc (.cells #[.int .i64 c.kind, .bool c.set, .int .i64 c.st.1, .int .i64 c.st.2, .string c.value, .int .i64 c.num.1, .int .i64 c.num.2, .slice ae c.ents.length ce, .slice al c.elems.length cl, .slice at_ c.seen.length cs] 75)).heap.size = w.heap.size + 1 by simp] at C1
  replace o1 := o1.from (w.heap.size + 2) (by simp)
  have z1 : w.heap.size + 2 ≤ w1.heap.size := by have := f1.size; simpa using this
  obtain ⟨q10, q11, q12, q13, q14, q15, q16, q17, q18, q19⟩ := obj10 B1
  have r1 := obj_frz B1
  have n1 : w.heap.size < w1.heap.size := by omega
  clear f1
  go_wp2_with (fail)
  refine ⟨again_cons (again_of rfl rfl ?_) (again_cons (again_of rfl rfl ?_) again_nil), ?_⟩
  · go_simp
  · go_simp
  go_wp2_with (fail)
  refine (cloneEl_ok (hl.no g1) hb.l).mono ?_
  rintro e w2 ⟨a2, c2, rfl, o2, f2⟩
  have g2 := g1.next f2
  have B2 := f2.obj B1 id
  have C2 := f2.obj C1 id
  replace o1 := o1.no f2
  replace o2 := o2.from (w.heap.size + 2) z1
  have z2 : w.heap.size + 2 ≤ w2.heap.size := Nat.le_trans z1 f2.size
  clear f2 B1 C1 q10 q11 q12 q13 q14 q15 q16 q17 q18 q19 r1 n1
  obtain ⟨q20, q21, q22, q23, q24, q25, q26, q27, q28, q29⟩ := obj10 B2
  go_wp2_with (fail)
  refine ⟨again_cons (again_of rfl rfl ?_) again_nil, ?_⟩
  · go_simp
  go_wp2_with (fail)
  refine (cloneInt_ok (hs.no g2) hb.s).mono ?_
  rintro e w3 ⟨a3, c3, rfl, o3, f3⟩
  have g3 := g2.next f3
  have B3 := f3.obj B2 id
  have C3 := f3.obj C2 id
  replace o1 := o1.no f3
  replace o2 := o2.no f3
  replace o3 := o3.from (w.heap.size + 2) z2
  clear f3 B2 C2 q20 q21 q22 q23 q24 q25 q26 q27 q28 q29
  obtain ⟨q30, q31, q32, q33, q34, q35, q36, q37, q38, q39⟩ := obj10 B3
  obtain ⟨p30, p31, p32, p33, p34, p35, p36, p37, p38, p39⟩ := obj10 C3
  have r3 := obj_frz B3
  have r4 := obj_frz C3
  have n3 : w.heap.size < w3.heap.size := lt_of_block B3
  have n4 : w.heap.size + 1 < w3.heap.size := lt_of_block C3
  clear B3 C3
  go_wp2
  refine bodyPost_ret (v := .agg #[.int .i64 c.kind, .bool c.set, .int .i64 c.st.1, .int .i64 c.st.2, .string c.value, .int .i64 c.num.1, .int .i64 c.num.2, .slice a1 c.ents.length c1, .slice a2 c.elems.length c2, .slice a3 c.seen.length c3]) (by simp [results, Tryz.results92, go_sem, *]) rfl ?_
  refine ⟨_, _, _, rfl, cellO_fin (M := w.heap.size + 2) o1 o2 o3 ?_ (by omega), ?_⟩
  · iterate 13 refine Frm.sc (F := fun k => k < w.heap.size + 2) ?_ (by show _ < _; omega) _ _
    exact Frm.refl _ _
  · iterate 13 refine Frm.st ?_ (by omega) _ _
    exact g3
end Go.Proofs.YtgpdpalhkkjmiaaGreatDoor

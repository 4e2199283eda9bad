/- Cells: the copies of package lww and of the document's answer. -/
import Derived.Test.YtheejjifcpjdbaaCells2
import Derived.Lib.LazyBuf
namespace Go.Proofs.Ytheejjifcpjdbaa
set_option linter.unusedVariables false
set_option linter.unusedSimpArgs false
open Go.RowKit Go.Lib Go.Tt
set_option maxHeartbeats 1000000 in
set_option maxRecDepth 100000 in
theorem refCopy_ok {w : World} {c : CellV} {ve vl vs : Value} (h : CellR w c ve vl vs) (hb : CellB c) :
    Calls Try.prog 71 #[cval c ve vl vs] w fun e w' => ∃ ve' vl' vs', e = .returned (cval c ve' vl' vs') ∧ CellO w' (Nw No w w') c ve' vl' vs' ∧ Frm No w w' := by
  obtain ⟨he, hl, hs⟩ := h
  obtain ⟨ae, ce, rfl⟩ := he.sh
  obtain ⟨al, cl, rfl⟩ := hl.sh
  obtain ⟨at_, cs, rfl⟩ := hs.sh
  obtain ⟨b1, b2, b3⟩ := hb
  unfold reachBytes at b1 b2 b3
  unfold cval
  go_enter Try.func71, Try.ntmps71
  go_wp2_with (at_builtin; refine wpList_ap _ rfl (.tmp 3) (.tmp 5) 56 56 rfl 90 _ 32 Try.underlying56 i_en rfl (Ow.nil _ No _ eEn _) ((he.no ((((Frm.refl No w).al _).al _).al _)).src Try.underlying56) rfl rfl rfl ?_ ?_ ?_)
  · unfold maxLen; simp; omega
  · simp; omega
  intro a1 c1 w1 o1 f1
  have g1 : Frm No w w1 := ((((Frm.refl No w).al _).al _).al _).trans f1
  have B1 := f1.obj (al_old (al_old (heap_alloc_new w _))) id
  have C1 := f1.obj (al_old (heap_alloc_new (w.alloc _) _)) id
  rw [show (w.alloc (.cells #[.int .i64 c.kind, .bool c.set, .int .i64 c.st.1, .int .i64 c.st.2, .string c.value, .int .i64 c.num.1, .int .i64 c.num.2, .slice ae c.ents.length ce, .slice al c.elems.length cl, .slice at_ c.seen.length cs] 59)).heap.size = w.heap.size + 1 by simp] at C1
  obtain ⟨q10, q11, q12, q13, q14, q15, q16, q17, q18, q19⟩ := obj10 B1
  have r1 := obj_frz B1
  replace o1 := o1.from (w.heap.size + 3) (by simp)
  have z1 : w.heap.size + 3 ≤ w1.heap.size := by have := f1.size; simpa using this
  clear f1
  have n1 : w.heap.size < w1.heap.size := by omega

  go_wp2_with (at_builtin; refine wpList_ap _ rfl (.tmp 8) (.tmp 10) 57 57 rfl 111 _ 48 Try.underlying57 i_el rfl (Ow.nil _ No _ eEl _) ((hl.no ((g1.st (Nat.le_refl _) _ _).al _)).src Try.underlying57) rfl rfl rfl ?_ ?_ ?_)
  · unfold maxLen; simp; omega
  · simp; omega
  intro a2 c2 w2 o2 f2
  have g2 : Frm No w w2 := ((g1.st (Nat.le_refl _) _ _).al _).trans f2
  have C2 := f2.obj (al_old (obj_setCell_ne C1 (by omega) _)) id
  have B2 := f2.obj (al_old (obj_setCell B1 _)) id
  replace o1 := ((o1.st (b := w.heap.size) (by omega) 7 (.slice a1 c.ents.length c1)).al (.cells #[] 111)).no f2
  replace o2 := o2.from (w.heap.size + 3) (by simp; omega)
  have z2 : w.heap.size + 3 ≤ w2.heap.size := by have := f2.size; simp at this; omega
  clear f2 q10 q11 q12 q13 q14 q15 q16 q17 q18 q19 r1 n1 B1
  have n2 : w.heap.size < w2.heap.size := by omega
  simp only [List.setIfInBounds_toArray, List.set_cons_zero, List.set_cons_succ] at B2
  obtain ⟨q20, q21, q22, q23, q24, q25, q26, q27, q28, q29⟩ := obj10 B2
  have r2 := obj_frz B2
  go_wp2_with (at_builtin; refine wpList_ap _ rfl (.tmp 13) (.tmp 15) 49 49 rfl 3 _ 8 Try.underlying49 i_int rfl (Ow.nil _ No _ eInt _) ((hs.no ((g2.st (Nat.le_refl _) _ _).al _)).src Try.underlying49) rfl rfl rfl ?_ ?_ ?_)
  · unfold maxLen; simp; omega
  · simp; omega
  intro a3 c3 w3 o3 f3
  have g3 : Frm No w w3 := ((g2.st (Nat.le_refl _) _ _).al _).trans f3
  have C3 := f3.obj (al_old (obj_setCell_ne C2 (by omega) _)) id
  have B3 := f3.obj (al_old (obj_setCell B2 _)) id
  replace o1 := ((o1.st (b := w.heap.size) (by omega) 8 (.slice a2 c.elems.length c2)).al (.cells #[] 3)).no f3
  replace o2 := ((o2.st (b := w.heap.size) (by omega) 8 (.slice a2 c.elems.length c2)).al (.cells #[] 3)).no f3
  replace o3 := o3.from (w.heap.size + 3) (by simp; omega)
  clear f3 q20 q21 q22 q23 q24 q25 q26 q27 q28 q29 r2 n2 B2
  simp only [List.setIfInBounds_toArray, List.set_cons_zero, List.set_cons_succ] at B3
  obtain ⟨q30, q31, q32, q33, q34, q35, q36, q37, q38, q39⟩ := obj10 B3
  have r3 := obj_frz B3
  have n3 : w.heap.size < w3.heap.size := lt_of_block B3
  obtain ⟨p30, p31, p32, p33, p34, p35, p36, p37, p38, p39⟩ := obj10 C3
  have r4 := obj_frz C3
  have n4 : w.heap.size + 1 < w3.heap.size := lt_of_block C3
  clear C1 C2 B3 C3
  go_wp2
  refine bodyPost_ret (v := .agg #[.int .i64 c.kind, .bool c.set, .int .i64 c.st.1, .int .i64 c.st.2, .string c.value, .int .i64 c.num.1, .int .i64 c.num.2, .slice a1 c.ents.length c1, .slice a2 c.elems.length c2, .slice a3 c.seen.length c3]) (by simp [results, Try.results71, go_sem, *]) rfl ?_
  refine ⟨_, _, _, rfl, cellO_fin (M := w.heap.size + 3) o1 o2 o3 ?_ (by omega), ?_⟩
  · iterate 11 refine Frm.sc (F := fun k => k < w.heap.size + 3) ?_ (by show _ < _; omega) _ _
    exact Frm.refl _ _
  · iterate 11 refine Frm.st ?_ (by omega) _ _
    exact g3
set_option maxRecDepth 100000 in
theorem cloneEn_ok {w : World} {a : Option Addr} {n c : Nat} {l : List En} (h : RdS w eEn (.slice a n c) l) (hb : l.length * 32 ≤ reachBytes) :
    Calls Try.prog 84 #[.slice a n c] w fun e w' => ∃ a' c', e = .returned (.slice a' n c') ∧ Ow w' (Nw No w w') 90 eEn (.slice a' n c') l ∧ Frm No w w' := by
  obtain ⟨hn, hc1, -, hnil⟩ := h.facts
  have hb' : l.length * 32 ≤ 140737488351232 := hb
  have heq := fun W a n c => run_eql_slice_nil (P := Try.prog) W 56 90 a n c Try.underlying56
  cases a with
  | none =>
    obtain ⟨rfl, rfl⟩ := hnil rfl
    obtain rfl := List.eq_nil_of_length_eq_zero hn.symm
    clear h hb hb' hc1 hnil hn
    go_enter Try.func84, Try.ntmps84
    go_wp2
    go_ret
    exact ⟨none, 0, rfl, Ow.nil _ _ _ _ _, Frm.refl _ _⟩
  | some a =>
    subst hn
    have H := Lib.hid h
    clear hnil h hb
    go_enter Try.func84, Try.ntmps84
    go_wp2_with (at_builtin; refine wpList_ap _ rfl (.tmp 5) (.tmp 6) 56 56 rfl 90 _ 32 Try.underlying56 i_en rfl (Ow.nil _ No _ eEn _) ((H.out.alloc _).src Try.underlying56) rfl rfl rfl ?_ ?_ ?_)
    · unfold maxLen; simp; omega
    · simp; omega
    intro a' c' w1 o1 f1
    go_wp2
    go_ret
    exact ⟨a', c', rfl, o1.new f1 (by simp), (Frm.alloc No _ _).trans f1⟩
set_option maxRecDepth 100000 in
theorem cloneEl_ok {w : World} {a : Option Addr} {n c : Nat} {l : List El} (h : RdS w eEl (.slice a n c) l) (hb : l.length * 48 ≤ reachBytes) :
    Calls Try.prog 85 #[.slice a n c] w fun e w' => ∃ a' c', e = .returned (.slice a' n c') ∧ Ow w' (Nw No w w') 111 eEl (.slice a' n c') l ∧ Frm No w w' := by
  obtain ⟨hn, hc1, -, hnil⟩ := h.facts
  have hb' : l.length * 48 ≤ 140737488351232 := hb
  have heq := fun W a n c => run_eql_slice_nil (P := Try.prog) W 57 111 a n c Try.underlying57
  cases a with
  | none =>
    obtain ⟨rfl, rfl⟩ := hnil rfl
    obtain rfl := List.eq_nil_of_length_eq_zero hn.symm
    clear h hb hb' hc1 hnil hn
    go_enter Try.func85, Try.ntmps85
    go_wp2
    go_ret
    exact ⟨none, 0, rfl, Ow.nil _ _ _ _ _, Frm.refl _ _⟩
  | some a =>
    subst hn
    have H := Lib.hid h
    clear hnil h hb
    go_enter Try.func85, Try.ntmps85
    go_wp2_with (at_builtin; refine wpList_ap _ rfl (.tmp 5) (.tmp 6) 57 57 rfl 111 _ 48 Try.underlying57 i_el rfl (Ow.nil _ No _ eEl _) ((H.out.alloc _).src Try.underlying57) rfl rfl rfl ?_ ?_ ?_)
    · unfold maxLen; simp; omega
    · simp; omega
    intro a' c' w1 o1 f1
    go_wp2
    go_ret
    exact ⟨a', c', rfl, o1.new f1 (by simp), (Frm.alloc No _ _).trans f1⟩
set_option maxRecDepth 100000 in
theorem cloneInt_ok {w : World} {a : Option Addr} {n c : Nat} {l : List Int} (h : RdS w eInt (.slice a n c) l) (hb : l.length * 8 ≤ reachBytes) :
    Calls Try.prog 86 #[.slice a n c] w fun e w' => ∃ a' c', e = .returned (.slice a' n c') ∧ Ow w' (Nw No w w') 3 eInt (.slice a' n c') l ∧ Frm No w w' := by
  obtain ⟨hn, hc1, -, hnil⟩ := h.facts
  have hb' : l.length * 8 ≤ 140737488351232 := hb
  have heq := fun W a n c => run_eql_slice_nil (P := Try.prog) W 49 3 a n c Try.underlying49
  cases a with
  | none =>
    obtain ⟨rfl, rfl⟩ := hnil rfl
    obtain rfl := List.eq_nil_of_length_eq_zero hn.symm
    clear h hb hb' hc1 hnil hn
    go_enter Try.func86, Try.ntmps86
    go_wp2
    go_ret
    exact ⟨none, 0, rfl, Ow.nil _ _ _ _ _, Frm.refl _ _⟩
  | some a =>
    subst hn
    have H := Lib.hid h
    clear hnil h hb
    go_enter Try.func86, Try.ntmps86
    go_wp2_with (at_builtin; refine wpList_ap _ rfl (.tmp 5) (.tmp 6) 49 49 rfl 3 _ 8 Try.underlying49 i_int rfl (Ow.nil _ No _ eInt _) ((H.out.alloc _).src Try.underlying49) rfl rfl rfl ?_ ?_ ?_)
    · unfold maxLen; simp; omega
    · simp; omega
    intro a' c' w1 o1 f1
    go_wp2
    go_ret
    exact ⟨a', c', rfl, o1.new f1 (by simp), (Frm.alloc No _ _).trans f1⟩

set_option maxHeartbeats 1000000 in
set_option maxRecDepth 100000 in
theorem lwwCopy_ok {w : World} {c : CellV} {ve vl vs : Value} (h : CellR w c ve vl vs) (hb : CellB c) :
    Calls Try.prog 67 #[cval c ve vl vs] w fun e w' => ∃ ve' vl' vs', e = .returned (cval c ve' vl' vs') ∧ CellO w' (Nw No w w') c ve' vl' vs' ∧ Frm No w w' := by
  obtain ⟨he, hl, hs⟩ := h
  obtain ⟨ae, ce, rfl⟩ := he.sh
  obtain ⟨al, cl, rfl⟩ := hl.sh
  obtain ⟨at_, cs, rfl⟩ := hs.sh
  unfold cval
  go_enter Try.func67, Try.ntmps67
  go_wp2
  refine wp_region_plan [([0, 1, 3, 4, 6, 7, 2], [7, 4]), ([9, 5], [7]), ([8, 10, 11, 12, 13, 14], [])] 16 (by kernel_rfl) (by kernel_rfl) (by simp) ?_
  intro N hN
  simp only [wpSegs, List.map_cons, List.map_nil, List.getD_cons_zero, List.getD_cons_succ]
  go_wp2_with (fail)
  refine (cloneEn_ok (he.no ((((Frm.refl No w).al _).al _).trans (Frm.drew _ _))) hb.e).mono ?_
  rintro e w1 ⟨a1, c1, rfl, o1, f1⟩
  have g1 : Frm No w w1 := ((((Frm.refl No w).al _).al _).trans (Frm.drew _ _)).trans f1
  have B1 := f1.obj (al_old (heap_alloc_new w _)) id
  have C1 := f1.obj (heap_alloc_new (w.alloc _) _) id
  rw [show (w.alloc (.cells #[.int .i64 c.kind, .bool c.set, .int .i64 c.st.1, .int .i64 c.st.2, .string c.value, .int .i64 c.num.1, .int .i64 c.num.2, .slice ae c.ents.length ce, .slice al c.elems.length cl, .slice at_ c.seen.length cs] 59)).heap.size = w.heap.size + 1 by simp] at C1
  replace o1 := o1.from (w.heap.size + 2) (by simp)
  have z1 : w.heap.size + 2 ≤ w1.heap.size := by have := f1.size; simpa using this
  obtain ⟨q10, q11, q12, q13, q14, q15, q16, q17, q18, q19⟩ := obj10 B1
  have r1 := obj_frz B1
  have n1 : w.heap.size < w1.heap.size := by omega
  clear f1
  go_wp2_with (fail)
  refine ⟨again_cons (again_of rfl rfl ?_) (again_cons (again_of rfl rfl ?_) again_nil), ?_⟩
  · go_simp
  · go_simp
  go_wp2_with (fail)
  refine (cloneEl_ok (hl.no g1) hb.l).mono ?_
  rintro e w2 ⟨a2, c2, rfl, o2, f2⟩
  have g2 := g1.next f2
  have B2 := f2.obj B1 id
  have C2 := f2.obj C1 id
  replace o1 := o1.no f2
  replace o2 := o2.from (w.heap.size + 2) z1
  have z2 : w.heap.size + 2 ≤ w2.heap.size := Nat.le_trans z1 f2.size
  clear f2 B1 C1 q10 q11 q12 q13 q14 q15 q16 q17 q18 q19 r1 n1
  obtain ⟨q20, q21, q22, q23, q24, q25, q26, q27, q28, q29⟩ := obj10 B2
  go_wp2_with (fail)
  refine ⟨again_cons (again_of rfl rfl ?_) again_nil, ?_⟩
  · go_simp
  go_wp2_with (fail)
  refine (cloneInt_ok (hs.no g2) hb.s).mono ?_
  rintro e w3 ⟨a3, c3, rfl, o3, f3⟩
  have g3 := g2.next f3
  have B3 := f3.obj B2 id
  have C3 := f3.obj C2 id
  replace o1 := o1.no f3
  replace o2 := o2.no f3
  replace o3 := o3.from (w.heap.size + 2) z2
  clear f3 B2 C2 q20 q21 q22 q23 q24 q25 q26 q27 q28 q29
  obtain ⟨q30, q31, q32, q33, q34, q35, q36, q37, q38, q39⟩ := obj10 B3
  obtain ⟨p30, p31, p32, p33, p34, p35, p36, p37, p38, p39⟩ := obj10 C3
  have r3 := obj_frz B3
  have r4 := obj_frz C3
  have n3 : w.heap.size < w3.heap.size := lt_of_block B3
  have n4 : w.heap.size + 1 < w3.heap.size := lt_of_block C3
  clear B3 C3
  go_wp2
  refine bodyPost_ret (v := .agg #[.int .i64 c.kind, .bool c.set, .int .i64 c.st.1, .int .i64 c.st.2, .string c.value, .int .i64 c.num.1, .int .i64 c.num.2, .slice a1 c.ents.length c1, .slice a2 c.elems.length c2, .slice a3 c.seen.length c3]) (by simp [results, Try.results67, go_sem, *]) rfl ?_
  refine ⟨_, _, _, rfl, cellO_fin (M := w.heap.size + 2) o1 o2 o3 ?_ (by omega), ?_⟩
  · iterate 13 refine Frm.sc (F := fun k => k < w.heap.size + 2) ?_ (by show _ < _; omega) _ _
    exact Frm.refl _ _
  · iterate 13 refine Frm.st ?_ (by omega) _ _
    exact g3
end Go.Proofs.Ytheejjifcpjdbaa

/- Merged: Cells3 Dots. -/
import Derived.Lib.LazyBuf
import Derived.Test.YtofikfkgiblblaaGreatDoorQ08
/- Cells: the copies of package lww and of the document's answer. -/
namespace Go.Proofs.YtofikfkgiblblaaGreatDoor
set_option linter.unusedVariables false
set_option linter.unusedSimpArgs false
set_option linter.unusedVariables false
set_option linter.unusedSimpArgs false
open Go.RowKit Go.Lib Go.Tt
set_option maxHeartbeats 1000000 in
set_option maxRecDepth 100000 in
theorem refCopy_ok {w : World} {c : CellV} {ve vl vs : Value} (h : CellR w c ve vl vs) (hb : CellB c) :
    Calls Tryz.prog 118 #[cval c ve vl vs] w fun e w' => ∃ ve' vl' vs', e = .returned (cval c ve' vl' vs') ∧ CellO w' (Nw No w w') c ve' vl' vs' ∧ Frm No w w' := by
  obtain ⟨he, hl, hs⟩ := h
  obtain ⟨ae, ce, rfl⟩ := he.sh
  obtain ⟨al, cl, rfl⟩ := hl.sh
  obtain ⟨at_, cs, rfl⟩ := hs.sh
  obtain ⟨b1, b2, b3⟩ := hb
  unfold reachBytes at b1 b2 b3
  unfold cval
  go_enter Tryz.func118, Tryz.ntmps118
  go_wp2_with (at_builtin; refine wpList_ap _ rfl (.tmp 3) (.tmp 5) 26 26 rfl 62 _ 32 Tryz.underlying26 i_en rfl (Ow.nil _ No _ eEn _) ((he.no ((((Frm.refl No w).al _).al _).al _)).src Tryz.underlying26) rfl rfl rfl ?_ ?_ ?_)
  · unfold maxLen; simp; omega
  · simp; omega
  intro a1 c1 w1 o1 f1
  have g1 : Frm No w w1 := ((((Frm.refl No w).al _).al _).al _).trans f1
  have B1 := f1.obj (al_old (al_old (heap_alloc_new w _))) id
  have C1 := f1.obj (al_old (heap_alloc_new (w.alloc _) _)) id
  rw [show (w.alloc (.cells #[.int .i64 c.kind, .bool c.set, .int .i64 c.st.1, .int .i64 c.st.2, .string c.value, .int .i64 c.num.1, .int .i64 c.num.2, .slice ae c.ents.length ce, .slice al c.elems.length cl, .slice at_ c.seen.length cs] 30)).heap.size = w.heap.size + 1 by simp] at C1
  obtain ⟨q10, q11, q12, q13, q14, q15, q16, q17, q18, q19⟩ := obj10 B1
  have r1 := obj_frz B1
  replace o1 := o1.from (w.heap.size + 3) (by simp)
  have z1 : w.heap.size + 3 ≤ w1.heap.size := by have := f1.size; simpa using this
  clear f1
  have n1 : w.heap.size < w1.heap.size := by omega

  go_wp2_with (at_builtin; refine wpList_ap _ rfl (.tmp 8) (.tmp 10) 27 27 rfl 59 _ 48 Tryz.underlying27 i_el rfl (Ow.nil _ No _ eEl _) ((hl.no ((g1.st (Nat.le_refl _) _ _).al _)).src Tryz.underlying27) rfl rfl rfl ?_ ?_ ?_)
  · unfold maxLen; simp; omega
  · simp; omega
  intro a2 c2 w2 o2 f2
  have g2 : Frm No w w2 := ((g1.st (Nat.le_refl _) _ _).al _).trans f2
  have C2 := f2.obj (al_old (obj_setCell_ne C1 (by omega) _)) id
  have B2 := f2.obj (al_old (obj_setCell B1 _)) id
  replace o1 := ((o1.st (b := w.heap.size) (by omega) 7 (.slice a1 c.ents.length c1)).al (.cells #[] 59)).no f2
  replace o2 := o2.from (w.heap.size + 3) (by simp; omega)
  have z2 : w.heap.size + 3 ≤ w2.heap.size := by have := f2.size; simp at this; omega
  clear f2 q10 q11 q12 q13 q14 q15 q16 q17 q18 q19 r1 n1 B1
  have n2 : w.heap.size < w2.heap.size := by omega
  simp only [List.setIfInBounds_toArray, List.set_cons_zero, List.set_cons_succ] at B2
  obtain ⟨q20, q21, q22, q23, q24, q25, q26, q27, q28, q29⟩ := obj10 B2
  have r2 := obj_frz B2
  go_wp2_with (at_builtin; refine wpList_ap _ rfl (.tmp 13) (.tmp 15) 28 28 rfl 3 _ 8 Tryz.underlying28 i_int rfl (Ow.nil _ No _ eInt _) ((hs.no ((g2.st (Nat.le_refl _) _ _).al _)).src Tryz.underlying28) rfl rfl rfl ?_ ?_ ?_)
  · unfold maxLen; simp; omega
  · simp; omega
  intro a3 c3 w3 o3 f3
  have g3 : Frm No w w3 := ((g2.st (Nat.le_refl _) _ _).al _).trans f3
  have C3 := f3.obj (al_old (obj_setCell_ne C2 (by omega) _)) id
  have B3 := f3.obj (al_old (obj_setCell B2 _)) id
  replace o1 := ((o1.st (b := w.heap.size) (by omega) 8 (.slice a2 c.elems.length c2)).al (.cells #[] 3)).no f3
  replace o2 := ((o2.st (b := w.heap.size) (by omega) 8 (.slice a2 c.elems.length c2)).al (.cells #[] 3)).no f3
  replace o3 := o3.from (w.heap.size + 3) (by simp; omega)
  clear f3 q20 q21 q22 q23 q24 q25 q26 q27 q28 q29 r2 n2 B2
  simp only [List.setIfInBounds_toArray, List.set_cons_zero, List.set_cons_succ] at B3
  obtain ⟨q30, q31, q32, q33, q34, q35, q36, q37, q38, q39⟩ := obj10 B3
  have r3 := obj_frz B3
  have n3 : w.heap.size < w3.heap.size := lt_of_block B3
  obtain ⟨p30, p31, p32, p33, p34, p35, p36, p37, p38, p39⟩ := obj10 C3
  have r4 := obj_frz C3
  have n4 : w.heap.size + 1 < w3.heap.size := lt_of_block C3
  clear C1 C2 B3 C3
  go_wp2
  refine bodyPost_ret (v := .agg #[.int .i64 c.kind, .bool c.set, .int .i64 c.st.1, .int .i64 c.st.2, .string c.value, .int .i64 c.num.1, .int .i64 c.num.2, .slice a1 c.ents.length c1, .slice a2 c.elems.length c2, .slice a3 c.seen.length c3]) (by simp [results, Tryz.results118, go_sem, *]) rfl ?_
  refine ⟨_, _, _, rfl, cellO_fin (M := w.heap.size + 3) o1 o2 o3 ?_ (by omega), ?_⟩
  · iterate 11 refine Frm.sc (F := fun k => k < w.heap.size + 3) ?_ (by show _ < _; omega) _ _
    exact Frm.refl _ _
  · iterate 11 refine Frm.st ?_ (by omega) _ _
    exact g3
set_option maxRecDepth 100000 in
theorem cloneEn_ok {w : World} {a : Option Addr} {n c : Nat} {l : List En} (h : RdS w eEn (.slice a n c) l) (hb : l.length * 32 ≤ reachBytes) :
    Calls Tryz.prog 132 #[.slice a n c] w fun e w' => ∃ a' c', e = .returned (.slice a' n c') ∧ Ow w' (Nw No w w') 62 eEn (.slice a' n c') l ∧ Frm No w w' := by
  obtain ⟨hn, hc1, -, hnil⟩ := h.facts
  have hb' : l.length * 32 ≤ 140737488351232 := hb
  have heq := fun W a n c => run_eql_slice_nil (P := Tryz.prog) W 26 62 a n c Tryz.underlying26
  cases a with
  | none =>
    obtain ⟨rfl, rfl⟩ := hnil rfl
    obtain rfl := List.eq_nil_of_length_eq_zero hn.symm
    clear h hb hb' hc1 hnil hn
    go_enter Tryz.func132, Tryz.ntmps132
    go_wp2
    go_ret
    exact ⟨none, 0, rfl, Ow.nil _ _ _ _ _, Frm.refl _ _⟩
  | some a =>
    subst hn
    have H := Lib.hid h
    clear hnil h hb
    go_enter Tryz.func132, Tryz.ntmps132
    go_wp2_with (at_builtin; refine wpList_ap _ rfl (.tmp 5) (.tmp 6) 26 26 rfl 62 _ 32 Tryz.underlying26 i_en rfl (Ow.nil _ No _ eEn _) ((H.out.alloc _).src Tryz.underlying26) rfl rfl rfl ?_ ?_ ?_)
    · unfold maxLen; simp; omega
    · simp; omega
    intro a' c' w1 o1 f1
    go_wp2
    go_ret
    exact ⟨a', c', rfl, o1.new f1 (by simp), (Frm.alloc No _ _).trans f1⟩
set_option maxRecDepth 100000 in
theorem cloneEl_ok {w : World} {a : Option Addr} {n c : Nat} {l : List El} (h : RdS w eEl (.slice a n c) l) (hb : l.length * 48 ≤ reachBytes) :
    Calls Tryz.prog 128 #[.slice a n c] w fun e w' => ∃ a' c', e = .returned (.slice a' n c') ∧ Ow w' (Nw No w w') 59 eEl (.slice a' n c') l ∧ Frm No w w' := by
  obtain ⟨hn, hc1, -, hnil⟩ := h.facts
  have hb' : l.length * 48 ≤ 140737488351232 := hb
  have heq := fun W a n c => run_eql_slice_nil (P := Tryz.prog) W 27 59 a n c Tryz.underlying27
  cases a with
  | none =>
    obtain ⟨rfl, rfl⟩ := hnil rfl
    obtain rfl := List.eq_nil_of_length_eq_zero hn.symm
    clear h hb hb' hc1 hnil hn
    go_enter Tryz.func128, Tryz.ntmps128
    go_wp2
    go_ret
    exact ⟨none, 0, rfl, Ow.nil _ _ _ _ _, Frm.refl _ _⟩
  | some a =>
    subst hn
    have H := Lib.hid h
    clear hnil h hb
    go_enter Tryz.func128, Tryz.ntmps128
    go_wp2_with (at_builtin; refine wpList_ap _ rfl (.tmp 5) (.tmp 6) 27 27 rfl 59 _ 48 Tryz.underlying27 i_el rfl (Ow.nil _ No _ eEl _) ((H.out.alloc _).src Tryz.underlying27) rfl rfl rfl ?_ ?_ ?_)
    · unfold maxLen; simp; omega
    · simp; omega
    intro a' c' w1 o1 f1
    go_wp2
    go_ret
    exact ⟨a', c', rfl, o1.new f1 (by simp), (Frm.alloc No _ _).trans f1⟩
set_option maxRecDepth 100000 in
theorem cloneInt_ok {w : World} {a : Option Addr} {n c : Nat} {l : List Int} (h : RdS w eInt (.slice a n c) l) (hb : l.length * 8 ≤ reachBytes) :
    Calls Tryz.prog 133 #[.slice a n c] w fun e w' => ∃ a' c', e = .returned (.slice a' n c') ∧ Ow w' (Nw No w w') 3 eInt (.slice a' n c') l ∧ Frm No w w' := by
  obtain ⟨hn, hc1, -, hnil⟩ := h.facts
  have hb' : l.length * 8 ≤ 140737488351232 := hb
  have heq := fun W a n c => run_eql_slice_nil (P := Tryz.prog) W 28 3 a n c Tryz.underlying28
  cases a with
  | none =>
    obtain ⟨rfl, rfl⟩ := hnil rfl
    obtain rfl := List.eq_nil_of_length_eq_zero hn.symm
    clear h hb hb' hc1 hnil hn
    go_enter Tryz.func133, Tryz.ntmps133
    go_wp2
    go_ret
    exact ⟨none, 0, rfl, Ow.nil _ _ _ _ _, Frm.refl _ _⟩
  | some a =>
    subst hn
    have H := Lib.hid h
    clear hnil h hb
    go_enter Tryz.func133, Tryz.ntmps133
    go_wp2_with (at_builtin; refine wpList_ap _ rfl (.tmp 5) (.tmp 6) 28 28 rfl 3 _ 8 Tryz.underlying28 i_int rfl (Ow.nil _ No _ eInt _) ((H.out.alloc _).src Tryz.underlying28) rfl rfl rfl ?_ ?_ ?_)
    · unfold maxLen; simp; omega
    · simp; omega
    intro a' c' w1 o1 f1
    go_wp2
    go_ret
    exact ⟨a', c', rfl, o1.new f1 (by simp), (Frm.alloc No _ _).trans f1⟩

set_option maxHeartbeats 1000000 in
set_option maxRecDepth 100000 in
theorem lwwCopy_ok {w : World} {c : CellV} {ve vl vs : Value} (h : CellR w c ve vl vs) (hb : CellB c) :
    Calls Tryz.prog 104 #[cval c ve vl vs] w fun e w' => ∃ ve' vl' vs', e = .returned (cval c ve' vl' vs') ∧ CellO w' (Nw No w w') c ve' vl' vs' ∧ Frm No w w' := by
  obtain ⟨he, hl, hs⟩ := h
  obtain ⟨ae, ce, rfl⟩ := he.sh
  obtain ⟨al, cl, rfl⟩ := hl.sh
  obtain ⟨at_, cs, rfl⟩ := hs.sh
  unfold cval
  go_enter Tryz.func104, Tryz.ntmps104
  go_wp2
  refine wp_region_plan [([0, 1, 3, 4, 6, 7, 2], [7, 4]), ([9, 5], [7]), ([8, 10, 11, 12, 13, 14], [])] 16 (by kernel_rfl) (by kernel_rfl) (by simp) ?_
  intro N hN
  simp only [wpSegs, List.map_cons, List.map_nil, List.getD_cons_zero, List.getD_cons_succ]
  go_wp2_with (fail)
  refine (cloneEn_ok (he.no ((((Frm.refl No w).al _).al _).trans (Frm.drew _ _))) hb.e).mono ?_
  rintro e w1 ⟨a1, c1, rfl, o1, f1⟩
  have g1 : Frm No w w1 := ((((Frm.refl No w).al _).al _).trans (Frm.drew _ _)).trans f1
  have B1 := f1.obj (al_old (heap_alloc_new w _)) id
  have C1 := f1.obj (heap_alloc_new (w.alloc _) _) id
  rw [show (w.alloc (.cells #[.int .i64 c.kind, .bool c.set, .int .i64 c.st.1, .int .i64 c.st.2, .string c.value, .int .i64 c.num.1, .int .i64 c.num.2, .slice ae c.ents.length ce, .slice al c.elems.length cl, .slice at_ c.seen.length cs] 30)).heap.size = w.heap.size + 1 by simp] at C1
  replace o1 := o1.from (w.heap.size + 2) (by simp)
  have z1 : w.heap.size + 2 ≤ w1.heap.size := by have := f1.size; simpa using this
  obtain ⟨q10, q11, q12, q13, q14, q15, q16, q17, q18, q19⟩ := obj10 B1
  have r1 := obj_frz B1
  have n1 : w.heap.size < w1.heap.size := by omega
  clear f1
  go_wp2_with (fail)
  refine ⟨again_cons (again_of rfl rfl ?_) (again_cons (again_of rfl rfl ?_) again_nil), ?_⟩
  · go_simp
  · go_simp
  go_wp2_with (fail)
  refine (cloneEl_ok (hl.no g1) hb.l).mono ?_
  rintro e w2 ⟨a2, c2, rfl, o2, f2⟩
  have g2 := g1.next f2
  have B2 := f2.obj B1 id
  have C2 := f2.obj C1 id
  replace o1 := o1.no f2
  replace o2 := o2.from (w.heap.size + 2) z1
  have z2 : w.heap.size + 2 ≤ w2.heap.size := Nat.le_trans z1 f2.size
  clear f2 B1 C1 q10 q11 q12 q13 q14 q15 q16 q17 q18 q19 r1 n1
  obtain ⟨q20, q21, q22, q23, q24, q25, q26, q27, q28, q29⟩ := obj10 B2
  go_wp2_with (fail)
  refine ⟨again_cons (again_of rfl rfl ?_) again_nil, ?_⟩
  · go_simp
  go_wp2_with (fail)
  refine (cloneInt_ok (hs.no g2) hb.s).mono ?_
  rintro e w3 ⟨a3, c3, rfl, o3, f3⟩
  have g3 := g2.next f3
  have B3 := f3.obj B2 id
  have C3 := f3.obj C2 id
  replace o1 := o1.no f3
  replace o2 := o2.no f3
  replace o3 := o3.from (w.heap.size + 2) z2
  clear f3 B2 C2 q20 q21 q22 q23 q24 q25 q26 q27 q28 q29
  obtain ⟨q30, q31, q32, q33, q34, q35, q36, q37, q38, q39⟩ := obj10 B3
  obtain ⟨p30, p31, p32, p33, p34, p35, p36, p37, p38, p39⟩ := obj10 C3
  have r3 := obj_frz B3
  have r4 := obj_frz C3
  have n3 : w.heap.size < w3.heap.size := lt_of_block B3
  have n4 : w.heap.size + 1 < w3.heap.size := lt_of_block C3
  clear B3 C3
  go_wp2
  refine bodyPost_ret (v := .agg #[.int .i64 c.kind, .bool c.set, .int .i64 c.st.1, .int .i64 c.st.2, .string c.value, .int .i64 c.num.1, .int .i64 c.num.2, .slice a1 c.ents.length c1, .slice a2 c.elems.length c2, .slice a3 c.seen.length c3]) (by simp [results, Tryz.results104, go_sem, *]) rfl ?_
  refine ⟨_, _, _, rfl, cellO_fin (M := w.heap.size + 2) o1 o2 o3 ?_ (by omega), ?_⟩
  · iterate 13 refine Frm.sc (F := fun k => k < w.heap.size + 2) ?_ (by show _ < _; omega) _ _
    exact Frm.refl _ _
  · iterate 13 refine Frm.st ?_ (by omega) _ _
    exact g3
end Go.Proofs.YtofikfkgiblblaaGreatDoor

/- Dots: may they be; their row; are they among some. -/
namespace Go.Proofs.YtofikfkgiblblaaGreatDoor
set_option linter.unusedVariables false
set_option linter.unusedSimpArgs false
open Go.RowKit Go.Lib Go.Tt
def dotMay (d : Dt) : Bool := decide (0 ≤ d.1 ∧ d.1 < 16 ∧ 1 ≤ d.2 ∧ d.2 ≤ 1048575)
def dotLess (a b : Dt) : Bool := decide (a.1 < b.1 ∨ a.1 = b.1 ∧ a.2 < b.2)
theorem al_at {w : World} {k : Nat} {o : Obj} (h : k = w.heap.size) : (w.alloc o).heap[k]? = some o := by subst h; exact heap_alloc_new w o
theorem dec_f {p : Prop} [Decidable p] (h : ¬ p) : false = decide p := (decide_eq_false h).symm
theorem dec_t {p : Prop} [Decidable p] (h : p) : true = decide p := (decide_eq_true h).symm
theorem dec_d {p q : Prop} [Decidable p] [Decidable q] (h : p ↔ q) : decide p = decide q := decide_eq_decide.2 h
set_option maxRecDepth 100000 in
theorem dotNodes16 (w : World) : Calls Tryz.prog 34 #[.int .i64 16] w fun e w' => e = .returned (.bool true) ∧ w = w' := by
  go_enter Tryz.func34, Tryz.ntmps34
  go_wp2
  go_ret
  exact ⟨rfl, rfl⟩
set_option maxRecDepth 100000 in
theorem dotMay16 (d : Dt) (w : World) : Calls Tryz.prog 60 #[.agg #[.int .i64 d.1, .int .i64 d.2], .int .i64 16] w fun e w' => e = .returned (.bool (dotMay d)) ∧ Frm No w w' := by
  go_enter Tryz.func60, Tryz.ntmps60
  go_wp2_with (go_at_call 34; refine (dotNodes16 _).mono ?_; rintro e w' ⟨rfl, rfl⟩)
  all_goals go_ret
  all_goals exact ⟨congrArg (fun b => Ending.returned (Value.bool b)) (by unfold dotMay; first | exact dec_f (by omega) | exact dec_t (by omega) | exact dec_d (by omega)), (Frm.refl No w).al _⟩
set_option maxRecDepth 100000 in
theorem refDotMay16 (d : Dt) (w : World) : Calls Tryz.prog 72 #[.agg #[.int .i64 d.1, .int .i64 d.2], .int .i64 16] w fun e w' => e = .returned (.bool (dotMay d)) ∧ Frm No w w' := by
  go_enter Tryz.func72, Tryz.ntmps72
  go_wp2
  all_goals go_ret
  all_goals exact ⟨congrArg (fun b => Ending.returned (Value.bool b)) (by unfold dotMay; first | exact dec_f (by omega) | exact dec_t (by omega) | exact dec_d (by omega)), (Frm.refl No w).al _⟩
set_option maxRecDepth 100000 in
theorem refDotLess (a b : Dt) (w : World) : Calls Tryz.prog 97 #[.agg #[.int .i64 a.1, .int .i64 a.2], .agg #[.int .i64 b.1, .int .i64 b.2]] w fun e w' => e = .returned (.bool (dotLess a b)) ∧ Frm No w w' := by
  go_enter Tryz.func97, Tryz.ntmps97
  go_wp2
  all_goals go_ret
  all_goals exact ⟨congrArg (fun b => Ending.returned (Value.bool b)) (by unfold dotLess; first | exact dec_f (by omega) | exact dec_t (by omega) | exact dec_d (by omega)), ((Frm.refl No w).al _).al _⟩

theorem mem_step {α : Type} {l : List α} {i : Nat} {d x : α} (h : i < l.length) (hp : d ∉ l.take i) (hx : Hid (x = l[i])) (hne : x ≠ d) : d ∉ l.take (i + 1) := by
  rw [List.take_succ_eq_append_getElem h, List.mem_append]
  rintro (hh | hh)
  · exact hp hh
  · simp at hh
    exact hne (hx.out.trans hh.symm)
set_option maxRecDepth 100000 in
theorem among_ok {w : World} {a : Option Addr} {n c : Nat} {l : List Dt} (h : RdS w eDt (.slice a n c) l) (d : Dt) :
    Calls Tryz.prog 121 #[.slice a n c, .agg #[.int .i64 d.1, .int .i64 d.2]] w fun e w' => e = .returned (.bool (decide (d ∈ l))) ∧ Frm No w w' := by
  obtain ⟨hn, hc1, hc2, -⟩ := h.facts
  unfold maxLen at hc2
  have HN := Lib.hid hn
  clear hn
  go_enter Tryz.func121, Tryz.ntmps121
  go_wp2
  go_loopg [5] (n + 1) (fun g iv wr => ∃ (i m : Nat), iv = .int .i64 i ∧ wr = (w.alloc (.cells #[.int .i64 d.1, .int .i64 d.2] 32)).drewN m ∧ i ≤ n ∧ g = n - i + 1 ∧ d ∉ l.take i)
  case atStart => exact ⟨0, 0, rfl, rfl, Nat.zero_le _, by omega, by simp⟩
  case round =>
    obtain ⟨i, m, rfl, rfl, hi, hg, hp⟩ := hrel
    have hG := Lib.hid hg
    have hP := Lib.hid hp
    clear hg hp
    by_cases hlt : i < n
    · have l1 : i < l.length := by rw [← HN.out]; exact hlt
      obtain ⟨b, off, rfl, hb, hc⟩ := h.at l1
      have e0 : w.cell? ⟨b, off + i * 2, none⟩ = some (.int .i64 l[i].1) := hc 0 _ rfl
      have e1 : w.cell? ⟨b, off + i * 2 + 1, none⟩ = some (.int .i64 l[i].2) := hc 1 _ rfl
      clear hc h
      obtain ⟨x, hx⟩ : ∃ x, Hid (x = l[i]) := ⟨_, Lib.hid rfl⟩
      rw [← hx.out] at e0 e1
      go_wp2
      refine wp_region_plan [([0, 1, 2, 3, 4, 5], [])] 18 (by kernel_rfl) (by kernel_rfl) (by simp) ?_
      intro N hN
      simp only [wpSegs, List.map_cons, List.map_nil, List.getD_cons_zero, List.getD_cons_succ]
      go_wp2
      · go_ret
        refine ⟨?_, ((Frm.refl No w).al _).dr _⟩
        have hd : d ∈ l := by rw [← show x = d from Prod.ext ‹_› ‹_›, hx.out]; exact List.getElem_mem l1
        rw [decide_eq_true hd]; rfl
      all_goals go_roundg (n - (i + 1) + 1)
      case measure => have := hG.out; omega
      case rel => exact ⟨i + 1, _, by go_num, rfl, by omega, rfl, mem_step l1 hP.out hx fun e => ‹¬ x.2 = d.2› (by rw [e])⟩
      case measure => have := hG.out; omega
      case rel => exact ⟨i + 1, _, by go_num, rfl, by omega, rfl, mem_step l1 hP.out hx fun e => ‹¬ x.1 = d.1› (by rw [e])⟩
    · have hii : ¬ ((i : Int) < n) := by omega
      go_wp2
      go_ret
      refine ⟨?_, ((Frm.refl No w).al _).dr _⟩
      have hP := hP.out
      rw [List.take_of_length_le (by have := HN.out; omega)] at hP
      rw [decide_eq_false hP]; rfl
end Go.Proofs.YtofikfkgiblblaaGreatDoor

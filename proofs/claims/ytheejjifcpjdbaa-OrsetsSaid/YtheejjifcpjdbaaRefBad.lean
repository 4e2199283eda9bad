/- Sets: what the document's answer refuses. -/
import Derived.Test.YtheejjifcpjdbaaDropP
namespace Go.Proofs.Ytheejjifcpjdbaa
set_option linter.unusedVariables false
set_option linter.unusedSimpArgs false
open Go.RowKit Go.Lib Go.Tt
set_option maxHeartbeats 1000000 in
set_option maxRecDepth 100000 in
theorem refPut_bad1 {w : World} {c : CellV} {ve vl vs : Value} (h : CellR w c ve vl vs) (d : Dt) (v : ByteArray) (hvm : v.size ≤ maxLen) (hbad : c.kind ≠ 2 ∨ dotMay d = false ∨ 256 < v.size) :
    Calls Try.prog 42 #[cval c ve vl vs, .agg #[.int .i64 d.1, .int .i64 d.2], .string v] w fun e w' => e = .returned (.tuple #[zval, .int .i64 900]) ∧ Frm No w w' := by
  obtain ⟨ae, ce, rfl⟩ := h.e.sh
  obtain ⟨al, cl, rfl⟩ := h.l.sh
  obtain ⟨at_, cs, rfl⟩ := h.s.sh
  unfold cval
  unfold maxLen at hvm
  have HM := fun W => refDotMay16 d W
  have HBd := Lib.hid hbad
  clear h hbad
  have C0 : (((w.alloc (.cells #[.int .i64 c.kind, .bool c.set, .int .i64 c.st.1, .int .i64 c.st.2, .string c.value, .int .i64 c.num.1, .int .i64 c.num.2, .slice ae c.ents.length ce, .slice al c.elems.length cl, .slice at_ c.seen.length cs] 59)).alloc (.cells #[.int .i64 d.1, .int .i64 d.2] 61)).alloc (.cells zlist.toArray 59)).heap[w.heap.size + 2]? = some (.cells zlist.toArray 59 (0, 0)) := al_at (by simp)
  have F0 : Frm No w (((w.alloc (.cells #[.int .i64 c.kind, .bool c.set, .int .i64 c.st.1, .int .i64 c.st.2, .string c.value, .int .i64 c.num.1, .int .i64 c.num.2, .slice ae c.ents.length ce, .slice al c.elems.length cl, .slice at_ c.seen.length cs] 59)).alloc (.cells #[.int .i64 d.1, .int .i64 d.2] 61)).alloc (.cells zlist.toArray 59)) := (((Frm.refl No w).al _).al _).al _
  by_cases hk : c.kind = 2
  · rw [hk] at C0 F0 ⊢
    have hbad := HBd.out
    rcases hdm : dotMay d with _ | _
    · rw [hdm] at HM
      clear hbad hk hdm HBd
      go_enter Try.func42, Try.ntmps42
      go_wp2_with (fail)
      refine (HM _).mono ?_
      rintro e w1 ⟨rfl, f1⟩
      have C1 := f1.obj C0 id
      have F1 := F0.trans f1
      clear HM
      go_wp2_with (refine wpList_sto _ rfl (.tmp 6) (.tmp 24) 59 rfl C1 (by kernel_rfl) (by rfl) zone rfl rfl ?_)
      intro w7 C7 f7 z7
      obtain ⟨t0, t1, t2, t3, t4, t5, t6, t7, t8, t9⟩ := obj10 C7
      go_wp2
      refine bodyPost_ret (v := .tuple #[zval, .int .i64 900]) (by simp [results, Try.results42, go_sem, zval, *]) rfl ?_
      exact ⟨rfl, F1.then f7 fun k hk e => by omega⟩
    · rw [hdm] at HM
      have hs : (256 : Int) < v.size := by
        rcases hbad with h | h | h
        · exact absurd hk h
        · rw [hdm] at h; cases h
        · omega
      clear hbad hk hdm HBd
      go_enter Try.func42, Try.ntmps42
      go_wp2_with (fail)
      refine (HM _).mono ?_
      rintro e w1 ⟨rfl, f1⟩
      have C1 := f1.obj C0 id
      have F1 := F0.trans f1
      clear HM
      go_wp2_with (refine wpList_sto _ rfl (.tmp 6) (.tmp 24) 59 rfl C1 (by kernel_rfl) (by rfl) zone rfl rfl ?_)
      intro w7 C7 f7 z7
      obtain ⟨t0, t1, t2, t3, t4, t5, t6, t7, t8, t9⟩ := obj10 C7
      go_wp2
      refine bodyPost_ret (v := .tuple #[zval, .int .i64 900]) (by simp [results, Try.results42, go_sem, zval, *]) rfl ?_
      exact ⟨rfl, F1.then f7 fun k hk e => by omega⟩
  · have C1 := C0
    have F1 := F0
    clear HBd
    go_enter Try.func42, Try.ntmps42
    go_wp2_with (refine wpList_sto _ rfl (.tmp 6) (.tmp 24) 59 rfl C1 (by kernel_rfl) (by rfl) zone rfl rfl ?_)
    intro w7 C7 f7 z7
    obtain ⟨t0, t1, t2, t3, t4, t5, t6, t7, t8, t9⟩ := obj10 C7
    go_wp2
    refine bodyPost_ret (v := .tuple #[zval, .int .i64 900]) (by simp [results, Try.results42, go_sem, zval, *]) rfl ?_
    exact ⟨rfl, F1.then f7 fun k hk e => by omega⟩
set_option maxHeartbeats 1000000 in
set_option maxRecDepth 100000 in
theorem refPut_bad2 {w : World} {c : CellV} {ve vl vs : Value} (h : CellR w c ve vl vs) (hb : CellB c) (hk : c.kind = 2) (d : Dt) (hd : dotMay d = true) (v : ByteArray) (hv : v.size ≤ 256) (hex : ∃ e ∈ c.ents, (e.1, e.2.1) = d) :
    Calls Try.prog 42 #[cval c ve vl vs, .agg #[.int .i64 d.1, .int .i64 d.2], .string v] w fun e w' => e = .returned (.tuple #[zval, .int .i64 900]) ∧ Frm No w w' := by
  obtain ⟨he, hl, hs⟩ := h
  obtain ⟨ae, ce, rfl⟩ := he.sh
  obtain ⟨al, cl, rfl⟩ := hl.sh
  obtain ⟨at_, cs, rfl⟩ := hs.sh
  unfold cval
  rw [hk]
  have HE := Lib.hid he
  have HX := Lib.hid hex
  have HM := fun W => refDotMay16 d W
  rw [hd] at HM
  have hm1 : c.ents.length ≤ 2 ^ 63 - 1 := by have h1 := hb.e; unfold reachBytes at h1; omega
  clear he hl hs hb hd hk hex
  go_enter Try.func42, Try.ntmps42
  go_wp2_with (fail)
  refine (HM _).mono ?_
  rintro e w1 ⟨rfl, f1⟩
  have F1 : Frm No w w1 := (((Frm.refl No w).al _).al _).al _ |>.trans f1
  have B1 : w1.heap[w.heap.size]? = some (.cells #[.int .i64 2, .bool c.set, .int .i64 c.st.1, .int .i64 c.st.2, .string c.value, .int .i64 c.num.1, .int .i64 c.num.2, .slice ae c.ents.length ce, .slice al c.elems.length cl, .slice at_ c.seen.length cs] 59 (0, 0)) := f1.obj (al_old (al_old (heap_alloc_new w _))) id
  have D1 : w1.heap[w.heap.size + 1]? = some (.cells #[.int .i64 d.1, .int .i64 d.2] 61 (0, 0)) := f1.obj (al_old (al_at (by simp))) id
  have C1 : w1.heap[w.heap.size + 2]? = some (.cells zlist.toArray 59 (0, 0)) := f1.obj (al_at (by simp)) id
  have q7 : w1.cell? ⟨w.heap.size, 7, none⟩ = some (.slice ae c.ents.length ce) := obj_cell B1 7
  clear f1 HM
  go_wp2
  clear q7
  go_loopg [8, 9] (c.ents.length + 1) (fun g kv iv wr => ∃ (t k : Nat), iv = .int .i64 ((t : Int) - 1) ∧ kv = .int .i64 k ∧ t ≤ c.ents.length ∧ g = t + 1 ∧ Frm No w wr ∧
    wr.heap[w.heap.size]? = some (.cells #[.int .i64 2, .bool c.set, .int .i64 c.st.1, .int .i64 c.st.2, .string c.value, .int .i64 c.num.1, .int .i64 c.num.2, .slice ae c.ents.length ce, .slice al c.elems.length cl, .slice at_ c.seen.length cs] 59 (0, 0)) ∧ wr.heap[w.heap.size + 1]? = some (.cells #[.int .i64 d.1, .int .i64 d.2] 61 (0, 0)) ∧ wr.heap[w.heap.size + 2]? = some (.cells zlist.toArray 59 (0, 0)) ∧ ∃ e ∈ c.ents.take t, (e.1, e.2.1) = d)
  case atStart => exact ⟨c.ents.length, c.ents.length, rfl, rfl, Nat.le_refl _, rfl, F1, B1, D1, C1, by rw [List.take_length]; exact HX.out⟩
  case round =>
    clear F1 B1 D1 C1
    obtain ⟨t, k, hiv, rfl, htn, hg, f, B, D, C, hx2⟩ := hrel
    have hG := Lib.hid hg
    have H2 := Lib.hid hx2
    clear hg hx2
    have q7 : wr.cell? ⟨w.heap.size, 7, none⟩ = some (.slice ae c.ents.length ce) := obj_cell B 7
    have d0 : wr.cell? ⟨w.heap.size + 1, 0, none⟩ = some (.int .i64 d.1) := obj_cell D 0
    have d1 : wr.cell? ⟨w.heap.size + 1, 1, none⟩ = some (.int .i64 d.2) := obj_cell D 1
    cases t with
    | zero =>
      obtain ⟨e, he, -⟩ := H2.out
      simp at he
    | succ i =>
      rw [show ((i + 1 : Nat) : Int) - 1 = i by omega] at hiv
      subst hiv
      have hlt : i < c.ents.length := by omega
      obtain ⟨b, off, rfl, -, hc⟩ := (HE.out.no f).at hlt
      obtain ⟨x, hx⟩ : ∃ x, Hid (x = c.ents[i]) := ⟨_, Lib.hid rfl⟩
      rw [← hx.out] at hc
      have e0 : wr.cell? ⟨b, off + i * 3, none⟩ = some (.int .i64 x.1) := hc 0 _ rfl
      have e1 : wr.cell? ⟨b, off + i * 3 + 1, none⟩ = some (.int .i64 x.2.1) := hc 1 _ rfl
      have e2 : wr.cell? ⟨b, off + i * 3 + 2, none⟩ = some (.string x.2.2) := hc 2 _ rfl
      clear hc
      have hxd : (x.1 = d.1 ∧ x.2.1 = d.2) ∨ (Hid ((x.1, x.2.1) ≠ d) ∧ ¬ x.1 = d.1) ∨ (Hid ((x.1, x.2.1) ≠ d) ∧ x.1 = d.1 ∧ ¬ x.2.1 = d.2) := by
        by_cases h1 : x.1 = d.1
        · by_cases h2 : x.2.1 = d.2
          · exact .inl ⟨h1, h2⟩
          · exact .inr (.inr ⟨Lib.hid fun e => h2 (congrArg Prod.snd e), h1, h2⟩)
        · exact .inr (.inl ⟨Lib.hid fun e => h1 (congrArg Prod.fst e), h1⟩)
      have hLess := fun W => refDotLess d (x.1, x.2.1) W
      rcases hxd with ⟨hxa, hxb⟩ | hxd
      · rw [hxa] at e0
        rw [hxb] at e1
        clear hLess hxa hxb
        go_wp2
        refine wp_region_plan [([0, 1, 2, 3, 4, 5, 6, 7], [])] 77 (by kernel_rfl) (by kernel_rfl) (by simp) ?_
        intro N hN
        simp only [wpSegs, List.map_cons, List.map_nil, List.getD_cons_zero, List.getD_cons_succ]
        have C1 := C
        have F1 := f.trans (Frm.drew No wr)
        go_wp2_with (refine wpList_sto _ rfl (.tmp 6) (.tmp 44) 59 rfl C1 (by kernel_rfl) (by rfl) zone rfl rfl ?_)
        intro w7 C7 f7 z7
        obtain ⟨t0, t1, t2, t3, t4, t5, t6, t7, t8, t9⟩ := obj10 C7
        go_wp2
        refine bodyPost_ret (v := .tuple #[zval, .int .i64 900]) (by simp [results, Try.results42, go_sem, zval, *]) rfl ?_
        exact ⟨rfl, F1.then f7 fun k hk e => by omega⟩
      · have hne : Hid ((x.1, x.2.1) ≠ d) := by rcases hxd with h | h <;> exact h.1
        have h3 : ∃ e ∈ c.ents.take i, (e.1, e.2.1) = d := by
          obtain ⟨e, he, h⟩ := H2.out
          rw [List.take_succ_eq_append_getElem hlt, List.mem_append] at he
          rcases he with he | he
          · exact ⟨e, he, h⟩
          · rw [List.mem_singleton, ← hx.out] at he
            subst he
            exact absurd h hne.out
        have H3 := Lib.hid h3
        obtain ⟨bb, hbb⟩ : ∃ bb, Hid (bb = dotLess d (x.1, x.2.1)) := ⟨_, Lib.hid rfl⟩
        rw [← hbb.out] at hLess
        clear h3
        simp only [] at hLess
        rcases hxd with ⟨-, hxd⟩ | ⟨-, hxa, hxd⟩
        all_goals (try simp only [hxa] at hLess)
        all_goals cases bb
        all_goals go_wp2
        all_goals refine wp_region_plan [([0, 1, 2, 3, 4, 5, 6, 7], [])] 77 (by kernel_rfl) (by kernel_rfl) (by simp) ?_
        all_goals intro N hN
        all_goals simp only [wpSegs, List.map_cons, List.map_nil, List.getD_cons_zero, List.getD_cons_succ]
        all_goals go_wp2
        all_goals refine wp_region_plan [([0, 1, 2, 3, 4, 5, 6, 7], [])] 77 (by kernel_rfl) (by kernel_rfl) (by simp) ?_
        all_goals intro N2 hN2
        all_goals simp only [wpSegs, List.map_cons, List.map_nil, List.getD_cons_zero, List.getD_cons_succ]
        all_goals go_wp2_with (fail)
        all_goals refine (hLess _).mono ?_
        all_goals rintro e w2 ⟨rfl, f2⟩
        all_goals clear hLess
        all_goals go_wp2
        all_goals go_roundg (i + 1)
        all_goals first
          | (have := hG.out; omega)
          | exact ⟨i, k, by go_num, rfl, by omega, rfl, (f.trans ((Frm.drew No _).trans ((Frm.drew No _).trans f2))), f2.obj B id, f2.obj D id, f2.obj C id, H3.out⟩
          | exact ⟨i, i, by go_num, rfl, by omega, rfl, (f.trans ((Frm.drew No _).trans ((Frm.drew No _).trans f2))), f2.obj B id, f2.obj D id, f2.obj C id, H3.out⟩
set_option maxRecDepth 100000 in
theorem refDots_bad {w : World} {c : CellV} {ve vl vs : Value} (h : CellR w c ve vl vs) (hk : c.kind ≠ 2) (v : ByteArray) :
    Calls Try.prog 48 #[cval c ve vl vs, .string v] w fun e w' => e = .returned (.tuple #[.slice none 0 0, .int .i64 900]) ∧ Frm No w w' := by
  unfold cval
  go_enter Try.func48, Try.ntmps48
  go_wp2
  go_ret2
  exact ⟨rfl, (Frm.refl No w).al _⟩
set_option maxRecDepth 100000 in
theorem refValues_bad {w : World} {c : CellV} {ve vl vs : Value} (h : CellR w c ve vl vs) (hk : c.kind ≠ 2) :
    Calls Try.prog 46 #[cval c ve vl vs] w fun e w' => e = .returned (.tuple #[.slice none 0 0, .int .i64 900]) ∧ Frm No w w' := by
  unfold cval
  go_enter Try.func46, Try.ntmps46
  go_wp2
  go_ret2
  exact ⟨rfl, (Frm.refl No w).al _⟩
set_option maxRecDepth 100000 in
theorem refDrop_bad {w : World} {c : CellV} {ve vl vs : Value} (h : CellR w c ve vl vs) (hk : c.kind ≠ 2) (a : Option Addr) (n m : Nat) :
    Calls Try.prog 44 #[cval c ve vl vs, .slice a n m] w fun e w' => e = .returned (.tuple #[zval, .int .i64 900]) ∧ Frm No w w' := by
  obtain ⟨ae, ce, rfl⟩ := h.e.sh
  obtain ⟨al, cl, rfl⟩ := h.l.sh
  obtain ⟨at_, cs, rfl⟩ := h.s.sh
  unfold cval
  have C0 : ((w.alloc (.cells #[.int .i64 c.kind, .bool c.set, .int .i64 c.st.1, .int .i64 c.st.2, .string c.value, .int .i64 c.num.1, .int .i64 c.num.2, .slice ae c.ents.length ce, .slice al c.elems.length cl, .slice at_ c.seen.length cs] 59)).alloc (.cells zlist.toArray 59)).heap[w.heap.size + 1]? = some (.cells zlist.toArray 59 (0, 0)) := al_at (by simp)
  have F0 : Frm No w ((w.alloc (.cells #[.int .i64 c.kind, .bool c.set, .int .i64 c.st.1, .int .i64 c.st.2, .string c.value, .int .i64 c.num.1, .int .i64 c.num.2, .slice ae c.ents.length ce, .slice al c.elems.length cl, .slice at_ c.seen.length cs] 59)).alloc (.cells zlist.toArray 59)) := ((Frm.refl No w).al _).al _
  clear h
  go_enter Try.func44, Try.ntmps44
  go_wp2_with (refine wpList_sto _ rfl (.tmp 4) (.tmp 11) 59 rfl C0 (by kernel_rfl) (by rfl) zone rfl rfl ?_)
  intro w7 C7 f7 z7
  obtain ⟨t0, t1, t2, t3, t4, t5, t6, t7, t8, t9⟩ := obj10 C7
  go_wp2
  refine bodyPost_ret (v := .tuple #[zval, .int .i64 900]) (by simp [results, Try.results44, go_sem, zval, *]) rfl ?_
  exact ⟨rfl, F0.then f7 fun k hk e => by omega⟩
end Go.Proofs.Ytheejjifcpjdbaa

/- Merged: RefBad Awake9 Txt. -/
import Derived.Test.YtgpdpalhkkjmiaaGreatDoorProg
import Derived.Test.YtgpdpalhkkjmiaaGreatDoorV01
import Derived.Test.YtgpdpalhkkjmiaaGreatDoorV10
import Derived.Test.YtgpdpalhkkjmiaaGreatDoorV11
/- Sets: what the document's answer refuses. -/
namespace Go.Proofs.YtgpdpalhkkjmiaaGreatDoor
set_option linter.unusedVariables false
set_option linter.unusedSimpArgs false
set_option linter.unusedVariables false
set_option linter.unusedSimpArgs false
open Go.RowKit Go.Lib Go.Tt
set_option maxHeartbeats 1000000 in
set_option maxRecDepth 100000 in
theorem refPut_bad1 {w : World} {c : CellV} {ve vl vs : Value} (h : CellR w c ve vl vs) (d : Dt) (v : ByteArray) (hvm : v.size ≤ maxLen) (hbad : c.kind ≠ 2 ∨ dotMay d = false ∨ 256 < v.size) :
    Calls Tryz.prog 35 #[cval c ve vl vs, .agg #[.int .i64 d.1, .int .i64 d.2], .string v] w fun e w' => e = .returned (.tuple #[zval, .int .i64 900]) ∧ Frm No w w' := by
  obtain ⟨ae, ce, rfl⟩ := h.e.sh
  obtain ⟨al, cl, rfl⟩ := h.l.sh
  obtain ⟨at_, cs, rfl⟩ := h.s.sh
  unfold cval
  unfold maxLen at hvm
  have HM := fun W => refDotMay16 d W
  have HBd := Lib.hid hbad
  clear h hbad
  have C0 : (((w.alloc (.cells #[.int .i64 c.kind, .bool c.set, .int .i64 c.st.1, .int .i64 c.st.2, .string c.value, .int .i64 c.num.1, .int .i64 c.num.2, .slice ae c.ents.length ce, .slice al c.elems.length cl, .slice at_ c.seen.length cs] 75)).alloc (.cells #[.int .i64 d.1, .int .i64 d.2] 83)).alloc (.cells zlist.toArray 75)).heap[w.heap.size + 2]? = some (.cells zlist.toArray 75 (0, 0)) := al_at (by simp)
  have F0 : Frm No w (((w.alloc (.cells #[.int .i64 c.kind, .bool c.set, .int .i64 c.st.1, .int .i64 c.st.2, .string c.value, .int .i64 c.num.1, .int .i64 c.num.2, .slice ae c.ents.length ce, .slice al c.elems.length cl, .slice at_ c.seen.length cs] 75)).alloc (.cells #[.int .i64 d.1, .int .i64 d.2] 83)).alloc (.cells zlist.toArray 75)) := (((Frm.refl No w).al _).al _).al _
  by_cases hk : c.kind = 2
  · rw [hk] at C0 F0 ⊢
    have hbad := HBd.out
    rcases hdm : dotMay d with _ | _
    · rw [hdm] at HM
      clear hbad hk hdm HBd
      go_enter Tryz.func35, Tryz.ntmps35
      go_wp2_with (fail)
      refine (HM _).mono ?_
      rintro e w1 ⟨rfl, f1⟩
      have C1 := f1.obj C0 id
      have F1 := F0.trans f1
      clear HM
      go_wp2_with (refine wpList_sto _ rfl (.tmp 6) (.tmp 24) 75 rfl C1 (by kernel_rfl) (by rfl) zone rfl rfl ?_)
      intro w7 C7 f7 z7
      obtain ⟨t0, t1, t2, t3, t4, t5, t6, t7, t8, t9⟩ := obj10 C7
      go_wp2
      refine bodyPost_ret (v := .tuple #[zval, .int .i64 900]) (by simp [results, Tryz.results35, go_sem, zval, *]) rfl ?_
      exact ⟨rfl, F1.then f7 fun k hk e => by omega⟩
    · rw [hdm] at HM
      have hs : (256 : Int) < v.size := by
        rcases hbad with h | h | h
        · exact absurd hk h
        · rw [hdm] at h; cases h
        · omega
      clear hbad hk hdm HBd
      go_enter Tryz.func35, Tryz.ntmps35
      go_wp2_with (fail)
      refine (HM _).mono ?_
      rintro e w1 ⟨rfl, f1⟩
      have C1 := f1.obj C0 id
      have F1 := F0.trans f1
      clear HM
      go_wp2_with (refine wpList_sto _ rfl (.tmp 6) (.tmp 24) 75 rfl C1 (by kernel_rfl) (by rfl) zone rfl rfl ?_)
      intro w7 C7 f7 z7
      obtain ⟨t0, t1, t2, t3, t4, t5, t6, t7, t8, t9⟩ := obj10 C7
      go_wp2
      refine bodyPost_ret (v := .tuple #[zval, .int .i64 900]) (by simp [results, Tryz.results35, go_sem, zval, *]) rfl ?_
      exact ⟨rfl, F1.then f7 fun k hk e => by omega⟩
  · have C1 := C0
    have F1 := F0
    clear HBd
    go_enter Tryz.func35, Tryz.ntmps35
    go_wp2_with (refine wpList_sto _ rfl (.tmp 6) (.tmp 24) 75 rfl C1 (by kernel_rfl) (by rfl) zone rfl rfl ?_)
    intro w7 C7 f7 z7
    obtain ⟨t0, t1, t2, t3, t4, t5, t6, t7, t8, t9⟩ := obj10 C7
    go_wp2
    refine bodyPost_ret (v := .tuple #[zval, .int .i64 900]) (by simp [results, Tryz.results35, go_sem, zval, *]) rfl ?_
    exact ⟨rfl, F1.then f7 fun k hk e => by omega⟩
set_option maxHeartbeats 1000000 in
set_option maxRecDepth 100000 in
theorem refPut_bad2 {w : World} {c : CellV} {ve vl vs : Value} (h : CellR w c ve vl vs) (hb : CellB c) (hk : c.kind = 2) (d : Dt) (hd : dotMay d = true) (v : ByteArray) (hv : v.size ≤ 256) (hex : ∃ e ∈ c.ents, (e.1, e.2.1) = d) :
    Calls Tryz.prog 35 #[cval c ve vl vs, .agg #[.int .i64 d.1, .int .i64 d.2], .string v] w fun e w' => e = .returned (.tuple #[zval, .int .i64 900]) ∧ Frm No w w' := by
  obtain ⟨he, hl, hs⟩ := h
  obtain ⟨ae, ce, rfl⟩ := he.sh
  obtain ⟨al, cl, rfl⟩ := hl.sh
  obtain ⟨at_, cs, rfl⟩ := hs.sh
  unfold cval
  rw [hk]
  have HE := Lib.hid he
  have HX := Lib.hid hex
  have HM := fun W => refDotMay16 d W
  rw [hd] at HM
  have hm1 : c.ents.length ≤ 2 ^ 63 - 1 := by have h1 := hb.e; unfold reachBytes at h1; omega
  clear he hl hs hb hd hk hex
  go_enter Tryz.func35, Tryz.ntmps35
  go_wp2_with (fail)
  refine (HM _).mono ?_
  rintro e w1 ⟨rfl, f1⟩
  have F1 : Frm No w w1 := (((Frm.refl No w).al _).al _).al _ |>.trans f1
  have B1 : w1.heap[w.heap.size]? = some (.cells #[.int .i64 2, .bool c.set, .int .i64 c.st.1, .int .i64 c.st.2, .string c.value, .int .i64 c.num.1, .int .i64 c.num.2, .slice ae c.ents.length ce, .slice al c.elems.length cl, .slice at_ c.seen.length cs] 75 (0, 0)) := f1.obj (al_old (al_old (heap_alloc_new w _))) id
  have D1 : w1.heap[w.heap.size + 1]? = some (.cells #[.int .i64 d.1, .int .i64 d.2] 83 (0, 0)) := f1.obj (al_old (al_at (by simp))) id
  have C1 : w1.heap[w.heap.size + 2]? = some (.cells zlist.toArray 75 (0, 0)) := f1.obj (al_at (by simp)) id
  have q7 : w1.cell? ⟨w.heap.size, 7, none⟩ = some (.slice ae c.ents.length ce) := obj_cell B1 7
  clear f1 HM
  go_wp2
  clear q7
  go_loopg [8, 9] (c.ents.length + 1) (fun g kv iv wr => ∃ (t k : Nat), iv = .int .i64 ((t : Int) - 1) ∧ kv = .int .i64 k ∧ t ≤ c.ents.length ∧ g = t + 1 ∧ Frm No w wr ∧
    wr.heap[w.heap.size]? = some (.cells #[.int .i64 2, .bool c.set, .int .i64 c.st.1, .int .i64 c.st.2, .string c.value, .int .i64 c.num.1, .int .i64 c.num.2, .slice ae c.ents.length ce, .slice al c.elems.length cl, .slice at_ c.seen.length cs] 75 (0, 0)) ∧ wr.heap[w.heap.size + 1]? = some (.cells #[.int .i64 d.1, .int .i64 d.2] 83 (0, 0)) ∧ wr.heap[w.heap.size + 2]? = some (.cells zlist.toArray 75 (0, 0)) ∧ ∃ e ∈ c.ents.take t, (e.1, e.2.1) = d)
  case atStart => exact ⟨c.ents.length, c.ents.length, rfl, rfl, Nat.le_refl _, rfl, F1, B1, D1, C1, by rw [List.take_length]; exact HX.out⟩
  case round =>
    clear F1 B1 D1 C1
    obtain ⟨t, k, hiv, rfl, htn, hg, f, B, D, C, hx2⟩ := hrel
    have hG := Lib.hid hg
    have H2 := Lib.hid hx2
    clear hg hx2
    have q7 : wr.cell? ⟨w.heap.size, 7, none⟩ = some (.slice ae c.ents.length ce) := obj_cell B 7
    have d0 : wr.cell? ⟨w.heap.size + 1, 0, none⟩ = some (.int .i64 d.1) := obj_cell D 0
    have d1 : wr.cell? ⟨w.heap.size + 1, 1, none⟩ = some (.int .i64 d.2) := obj_cell D 1
    cases t with
    | zero =>
      obtain ⟨e, he, -⟩ := H2.out
      simp at he
    | succ i =>
      rw [show ((i + 1 : Nat) : Int) - 1 = i by omega] at hiv
      subst hiv
      have hlt : i < c.ents.length := by omega
      obtain ⟨b, off, rfl, -, hc⟩ := (HE.out.no f).at hlt
      obtain ⟨x, hx⟩ : ∃ x, Hid (x = c.ents[i]) := ⟨_, Lib.hid rfl⟩
      rw [← hx.out] at hc
      have e0 : wr.cell? ⟨b, off + i * 3, none⟩ = some (.int .i64 x.1) := hc 0 _ rfl
      have e1 : wr.cell? ⟨b, off + i * 3 + 1, none⟩ = some (.int .i64 x.2.1) := hc 1 _ rfl
      have e2 : wr.cell? ⟨b, off + i * 3 + 2, none⟩ = some (.string x.2.2) := hc 2 _ rfl
      clear hc
      have hxd : (x.1 = d.1 ∧ x.2.1 = d.2) ∨ (Hid ((x.1, x.2.1) ≠ d) ∧ ¬ x.1 = d.1) ∨ (Hid ((x.1, x.2.1) ≠ d) ∧ x.1 = d.1 ∧ ¬ x.2.1 = d.2) := by
        by_cases h1 : x.1 = d.1
        · by_cases h2 : x.2.1 = d.2
          · exact .inl ⟨h1, h2⟩
          · exact .inr (.inr ⟨Lib.hid fun e => h2 (congrArg Prod.snd e), h1, h2⟩)
        · exact .inr (.inl ⟨Lib.hid fun e => h1 (congrArg Prod.fst e), h1⟩)
      have hLess := fun W => refDotLess d (x.1, x.2.1) W
      rcases hxd with ⟨hxa, hxb⟩ | hxd
      · rw [hxa] at e0
        rw [hxb] at e1
        clear hLess hxa hxb
        go_wp2
        refine wp_region_plan [([0, 1, 2, 3, 4, 5, 6, 7], [])] 77 (by kernel_rfl) (by kernel_rfl) (by simp) ?_
        intro N hN
        simp only [wpSegs, List.map_cons, List.map_nil, List.getD_cons_zero, List.getD_cons_succ]
        have C1 := C
        have F1 := f.trans (Frm.drew No wr)
        go_wp2_with (refine wpList_sto _ rfl (.tmp 6) (.tmp 44) 75 rfl C1 (by kernel_rfl) (by rfl) zone rfl rfl ?_)
        intro w7 C7 f7 z7
        obtain ⟨t0, t1, t2, t3, t4, t5, t6, t7, t8, t9⟩ := obj10 C7
        go_wp2
        refine bodyPost_ret (v := .tuple #[zval, .int .i64 900]) (by simp [results, Tryz.results35, go_sem, zval, *]) rfl ?_
        exact ⟨rfl, F1.then f7 fun k hk e => by omega⟩
      · have hne : Hid ((x.1, x.2.1) ≠ d) := by rcases hxd with h | h <;> exact h.1
        have h3 : ∃ e ∈ c.ents.take i, (e.1, e.2.1) = d := by
          obtain ⟨e, he, h⟩ := H2.out
          rw [List.take_succ_eq_append_getElem hlt, List.mem_append] at he
          rcases he with he | he
          · exact ⟨e, he, h⟩
          · rw [List.mem_singleton, ← hx.out] at he
            subst he
            exact absurd h hne.out
        have H3 := Lib.hid h3
        obtain ⟨bb, hbb⟩ : ∃ bb, Hid (bb = dotLess d (x.1, x.2.1)) := ⟨_, Lib.hid rfl⟩
        rw [← hbb.out] at hLess
        clear h3
        simp only [] at hLess
        rcases hxd with ⟨-, hxd⟩ | ⟨-, hxa, hxd⟩
        all_goals (try simp only [hxa] at hLess)
        all_goals cases bb
        all_goals go_wp2
        all_goals refine wp_region_plan [([0, 1, 2, 3, 4, 5, 6, 7], [])] 77 (by kernel_rfl) (by kernel_rfl) (by simp) ?_
        all_goals intro N hN
        all_goals simp only [wpSegs, List.map_cons, List.map_nil, List.getD_cons_zero, List.getD_cons_succ]
        all_goals go_wp2
        all_goals refine wp_region_plan [([0, 1, 2, 3, 4, 5, 6, 7], [])] 77 (by kernel_rfl) (by kernel_rfl) (by simp) ?_
        all_goals intro N2 hN2
        all_goals simp only [wpSegs, List.map_cons, List.map_nil, List.getD_cons_zero, List.getD_cons_succ]
        all_goals go_wp2_with (fail)
        all_goals refine (hLess _).mono ?_
        all_goals rintro e w2 ⟨rfl, f2⟩
        all_goals clear hLess
        all_goals go_wp2
        all_goals go_roundg (i + 1)
        all_goals first
          | (have := hG.out; omega)
          | exact ⟨i, k, by go_num, rfl, by omega, rfl, (f.trans ((Frm.drew No _).trans ((Frm.drew No _).trans f2))), f2.obj B id, f2.obj D id, f2.obj C id, H3.out⟩
          | exact ⟨i, i, by go_num, rfl, by omega, rfl, (f.trans ((Frm.drew No _).trans ((Frm.drew No _).trans f2))), f2.obj B id, f2.obj D id, f2.obj C id, H3.out⟩
set_option maxRecDepth 100000 in
theorem refDots_bad {w : World} {c : CellV} {ve vl vs : Value} (h : CellR w c ve vl vs) (hk : c.kind ≠ 2) (v : ByteArray) :
    Calls Tryz.prog 33 #[cval c ve vl vs, .string v] w fun e w' => e = .returned (.tuple #[.slice none 0 0, .int .i64 900]) ∧ Frm No w w' := by
  unfold cval
  go_enter Tryz.func33, Tryz.ntmps33
  go_wp2
  go_ret2
  exact ⟨rfl, (Frm.refl No w).al _⟩
set_option maxRecDepth 100000 in
theorem refValues_bad {w : World} {c : CellV} {ve vl vs : Value} (h : CellR w c ve vl vs) (hk : c.kind ≠ 2) :
    Calls Tryz.prog 36 #[cval c ve vl vs] w fun e w' => e = .returned (.tuple #[.slice none 0 0, .int .i64 900]) ∧ Frm No w w' := by
  unfold cval
  go_enter Tryz.func36, Tryz.ntmps36
  go_wp2
  go_ret2
  exact ⟨rfl, (Frm.refl No w).al _⟩
set_option maxRecDepth 100000 in
theorem refDrop_bad {w : World} {c : CellV} {ve vl vs : Value} (h : CellR w c ve vl vs) (hk : c.kind ≠ 2) (a : Option Addr) (n m : Nat) :
    Calls Tryz.prog 34 #[cval c ve vl vs, .slice a n m] w fun e w' => e = .returned (.tuple #[zval, .int .i64 900]) ∧ Frm No w w' := by
  obtain ⟨ae, ce, rfl⟩ := h.e.sh
  obtain ⟨al, cl, rfl⟩ := h.l.sh
  obtain ⟨at_, cs, rfl⟩ := h.s.sh
  unfold cval
  have C0 : ((w.alloc (.cells #[.int .i64 c.kind, .bool c.set, .int .i64 c.st.1, .int .i64 c.st.2, .string c.value, .int .i64 c.num.1, .int .i64 c.num.2, .slice ae c.ents.length ce, .slice al c.elems.length cl, .slice at_ c.seen.length cs] 75)).alloc (.cells zlist.toArray 75)).heap[w.heap.size + 1]? = some (.cells zlist.toArray 75 (0, 0)) := al_at (by simp)
  have F0 : Frm No w ((w.alloc (.cells #[.int .i64 c.kind, .bool c.set, .int .i64 c.st.1, .int .i64 c.st.2, .string c.value, .int .i64 c.num.1, .int .i64 c.num.2, .slice ae c.ents.length ce, .slice al c.elems.length cl, .slice at_ c.seen.length cs] 75)).alloc (.cells zlist.toArray 75)) := ((Frm.refl No w).al _).al _
  clear h
  go_enter Tryz.func34, Tryz.ntmps34
  go_wp2_with (refine wpList_sto _ rfl (.tmp 4) (.tmp 11) 75 rfl C0 (by kernel_rfl) (by rfl) zone rfl rfl ?_)
  intro w7 C7 f7 z7
  obtain ⟨t0, t1, t2, t3, t4, t5, t6, t7, t8, t9⟩ := obj10 C7
  go_wp2
  refine bodyPost_ret (v := .tuple #[zval, .int .i64 900]) (by simp [results, Tryz.results34, go_sem, zval, *]) rfl ?_
  exact ⟨rfl, F0.then f7 fun k hk e => by omega⟩
end Go.Proofs.YtgpdpalhkkjmiaaGreatDoor

/- Sets: what every program answers that is one. -/
namespace Go.Proofs.YtgpdpalhkkjmiaaGreatDoor
set_option linter.unusedVariables false
set_option linter.unusedSimpArgs false
open Go.RowKit Go.Lib Go.Tt
def l1 : List En := [(1, 2, ⟨#[98]⟩)]
def l2 : List En := [(0, 7, ⟨#[97]⟩), (1, 2, ⟨#[98]⟩)]
def l3 : List En := [(0, 7, ⟨#[97]⟩), (1, 2, ⟨#[98]⟩), (1, 3, ⟨#[98]⟩)]
def l4 : List En := [(0, 7, ⟨#[97]⟩), (1, 3, ⟨#[98]⟩)]
theorem put_l1 : putEn [] (1, 2) ⟨#[98]⟩ = l1 := rfl
theorem put_l2 : putEn l1 (0, 7) ⟨#[97]⟩ = l2 := rfl
theorem put_l3 : putEn l2 (1, 3) ⟨#[98]⟩ = l3 := rfl
theorem drop_l4 : dropped l3 [(1, 2)] = l4 := rfl
theorem dots_l3 : dotsOf l3 ⟨#[98]⟩ = [(1, 2), (1, 3)] := rfl
theorem vals_l3 : valsOf l3 = [⟨#[97]⟩, ⟨#[98]⟩] := by
  refine valsOf_eq ?_ fun x => ?_
  · refine List.pairwise_cons.2 ⟨fun y hy => ?_, List.pairwise_singleton _ _⟩
    obtain rfl := List.mem_singleton.1 hy
    show ([97] : List UInt8) < [98]
    decide
  · simp [l3, eq_comm]
end Go.Proofs.YtgpdpalhkkjmiaaGreatDoor

/- Texts made of bytes. -/
namespace Go.Proofs.YtgpdpalhkkjmiaaGreatDoor
set_option linter.unusedVariables false
set_option linter.unusedSimpArgs false
open Go.RowKit Go.Lib Go.Tt
theorem i_u8 : (Tryz.prog.info? 5).map (fun i => (i.zero, i.size, i.bytes)) = some (some (.int .u8 0), 1, 1) := by kernel_rfl
/-- Bytes as cells. -/
def bcs (l : List UInt8) : List Value := l.map fun b => .int .u8 b.toNat
theorem bcs_length (l : List UInt8) : (bcs l).length = l.length := by simp [bcs]
theorem bcs_app (a b : List UInt8) : bcs (a ++ b) = bcs a ++ bcs b := by simp [bcs]
theorem bcs_str (s : ByteArray) : bcs s.data.toList = byteCells s := rfl
theorem bcs_one (l : List UInt8) : ∀ u ∈ bcs l, u.oneCell' = true := by intro u hu; obtain ⟨b, _, rfl⟩ := List.mem_map.1 hu; rfl

set_option maxRecDepth 100000 in
/-- Bytes that are owned, turned into a text. -/
theorem conv_own {w : World} {B : Nat} {a : Option Addr} {c : Nat} {l : List UInt8} (h : w.ownsRow B 5 1 (.slice a l.length c) l.length (bcs l)) :
    (convert 27 9 (.slice a l.length c)).run Tryz.prog w = .ok (.string ⟨l.toArray⟩) w := by
  rcases own_cases h with ⟨rfl, h0, h1, h2⟩ | ⟨g, rfl, _, _⟩
  · have hl : l = [] := List.eq_nil_of_length_eq_zero h0
    subst hl
    exact run_convert_bytes_nil (P := Tryz.prog) w 27 5 Tryz.underlying27 Tryz.underlying5 0 c 9 Tryz.underlying9
  · have hc : ∀ i, i < l.length → w.cell? ⟨g, 0 + i, none⟩ = some (.int .u8 ((l.map fun b => (b.toNat : Int)).getD i 0)) := fun i hi => by
      rw [Nat.zero_add, h.cellAt i (by omega)]
      simp [bcs, List.getD, hi]
    have := run_convert_bytes_arg (P := Tryz.prog) w 27 5 Tryz.underlying27 Tryz.underlying5 g 0 l.length c (l.map fun b => (b.toNat : Int)) (by simp) hc 9 Tryz.underlying9
    rw [this]
    have e : (l.map ((fun n => UInt8.ofNat n.toNat) ∘ fun b => (b.toNat : Int))) = l := by
      conv => rhs; rw [← List.map_id l]
      exact List.map_congr_left fun b _ => by simp
    simp [strOfNums, e]
theorem bcs_zeros (n : Nat) : bcs (List.replicate n 0) = List.replicate n (.int .u8 0) := by simp [bcs]
theorem conv_zeros {w : World} {a : Option Addr} {n c : Nat} (h : w.ownsRow 0 5 1 (.slice a n c) n (List.replicate n (.int .u8 0))) :
    (convert 27 9 (.slice a n c)).run Tryz.prog w = .ok (.string ⟨(List.replicate n 0).toArray⟩) w := by
  have h' : w.ownsRow 0 5 1 (.slice a (List.replicate n (0 : UInt8)).length c) (List.replicate n (0 : UInt8)).length (bcs (List.replicate n 0)) := by
    rw [bcs_zeros, List.length_replicate]; exact h
  have := conv_own h'
  rw [List.length_replicate] at this
  exact this
theorem grown_no {w w' : World} (h : w.grownBy w' none) : Frm No w w' := (Frm.of_grown h).mono fun k _ hk => by cases hk
end Go.Proofs.YtgpdpalhkkjmiaaGreatDoor

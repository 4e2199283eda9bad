/- Merged: CellM4 Blk5. -/
import Derived.Test.YtofikfkgiblblaaGreatDoorQ01
import Derived.Test.YtofikfkgiblblaaGreatDoorQ11
import Derived.Test.YtofikfkgiblblaaGreatDoorQ32
import Derived.Test.YtofikfkgiblblaaGreatDoorQ34
/- Layer 12: kinds, new cells, may a cell be, is a cell stable. -/
namespace Go.Proofs.YtofikfkgiblblaaGreatDoor
set_option linter.unusedVariables false
set_option linter.unusedSimpArgs false
set_option linter.unusedVariables false
set_option linter.unusedSimpArgs false
open Go.RowKit Go.Lib Go.Tt Go.Shelf
def kindMay (k : Int) : Bool := decide (0 ≤ k ∧ k ≤ 3)
theorem cellKind_ok (k : Int) (w : World) : Calls Tryz.prog 33 #[.int .i64 k] w fun e w' => e = .returned (.bool (kindMay k)) ∧ w = w' := by
  obtain ⟨B, hB⟩ : ∃ B : Bool, Hid (B = kindMay k) := ⟨_, Lib.hid rfl⟩
  rw [← hB.out]
  go_enter Tryz.func33, Tryz.ntmps33
  go_wp2_with (fail)
  all_goals go_ret
  all_goals refine ⟨congrArg (fun b => Ending.returned (Value.bool b)) ?_, rfl⟩
  all_goals rw [hB.out]
  all_goals unfold kindMay
  all_goals first | exact dec_f (by omega) | exact dec_t (by omega) | exact dec_d (by omega)
theorem flat_zeros (m : Nat) : eInt.flat (List.replicate m 0) = List.replicate m (Value.int .i64 0) := by
  induction m with
  | zero => rfl
  | succ m ih => rw [List.replicate_succ, eInt.flat_cons, ih]; rfl
/-- A new cell. -/
def newC (k : Int) (n : Nat) : CellV := ⟨k, false, (0, 0), ⟨#[]⟩, (0, 0), [], [], List.replicate n 0⟩
def newF (k n : Int) : CellV × Int := if kindMay k = false then (zeroC, 1201) else if nodesMay n = false then (zeroC, 1200) else (newC k n.toNat, 0)
set_option maxHeartbeats 1000000 in
set_option maxRecDepth 100000 in
theorem cellNew_ok (k n : Int) (w : World) : Calls Tryz.prog 13 #[.int .i64 k, .int .i64 n] w (CP (newF k n).1 (newF k n).2 w) := by
  have HK := Lib.hid (fun W => cellKind_ok k W)
  have HN := Lib.hid (fun W => nodes_ok n W)
  have C0 := heap_alloc_new w (.cells zlist.toArray 30 (0, 0))
  have nc : w.heap.size < (w.alloc (.cells zlist.toArray 30 (0, 0))).heap.size := lt_of_block C0
  rcases hk : kindMay k with _ | _
  · have hr : Hid (newF k n = (zeroC, 1201)) := Lib.hid (if_pos hk)
    rw [hk] at HK
    clear hk
    go_enter Tryz.func13, Tryz.ntmps13
    go_wp2_with (fail)
    refine (HK.out _).mono ?_
    rintro e w' ⟨rfl, rfl⟩
    go_wp2_with (refine wpList_sto _ rfl (.tmp 4) (.tmp 10) 30 rfl C0 (by kernel_rfl) (by rfl) zone rfl rfl ?_)
    intro w7 C7 f7 z7
    obtain ⟨t0, t1, t2, t3, t4, t5, t6, t7, t8, t9⟩ := obj10 C7
    go_wp2
    refine bodyPost_ret (v := .tuple #[zval, .int .i64 1201]) (by simp [results, Tryz.results13, go_sem, zval, *]) rfl ?_
    rw [hr.out]
    exact zval_cp ⟨rfl, ((Frm.refl No w).al _).then f7 fun k hk e => by omega⟩
  rcases hn : nodesMay n with _ | _
  · have hr : Hid (newF k n = (zeroC, 1200)) := Lib.hid (by unfold newF; rw [if_neg (by rw [hk]; decide), if_pos hn])
    rw [hk] at HK
    rw [hn] at HN
    clear hk hn
    go_enter Tryz.func13, Tryz.ntmps13
    go_wp2_with (fail)
    refine (HK.out _).mono ?_
    rintro e w' ⟨rfl, rfl⟩
    go_wp2_with (fail)
    refine (HN.out _).mono ?_
    rintro e w' ⟨rfl, rfl⟩
    go_wp2_with (refine wpList_sto _ rfl (.tmp 4) (.tmp 15) 30 rfl C0 (by kernel_rfl) (by rfl) zone rfl rfl ?_)
    intro w7 C7 f7 z7
    obtain ⟨t0, t1, t2, t3, t4, t5, t6, t7, t8, t9⟩ := obj10 C7
    go_wp2
    refine bodyPost_ret (v := .tuple #[zval, .int .i64 1200]) (by simp [results, Tryz.results13, go_sem, zval, *]) rfl ?_
    rw [hr.out]
    exact zval_cp ⟨rfl, ((Frm.refl No w).al _).then f7 fun k hk e => by omega⟩
  · have hr : Hid (newF k n = (newC k n.toNat, 0)) := Lib.hid (by unfold newF; rw [if_neg (by rw [hk]; decide), if_neg (by rw [hn]; decide)])
    have hnb := of_decide_eq_true hn
    rw [hk] at HK
    rw [hn] at HN
    clear hk hn
    obtain ⟨m, hm⟩ : ∃ m : Nat, n = m := ⟨n.toNat, by omega⟩
    subst hm
    go_enter Tryz.func13, Tryz.ntmps13
    go_wp2_with (fail)
    refine (HK.out _).mono ?_
    rintro e w' ⟨rfl, rfl⟩
    go_wp2_with (fail)
    refine (HN.out _).mono ?_
    rintro e w' ⟨rfl, rfl⟩
    go_wp2_with (at_make; refine wpList_mk1 _ rfl _ _ 28 rfl 3 (.int .i64 0) 8 Tryz.underlying28 i_int rfl _ _ _ _ m rfl rfl rfl rfl (by omega) (by unfold maxLen; omega) ?_)
    intro w1 o1 g1
    have f1 := grown_no g1
    have C1 := f1.obj C0 id
    have n1 := lt_of_block C1
    go_wp2_with (refine wpList_sto _ rfl (.tmp 4) (.tmp 19) 30 rfl C1 (by kernel_rfl) (by rfl) (vs := [.int .i64 k, .bool false, .int .i64 0, .int .i64 0, .string ⟨#[]⟩, .int .i64 0, .int .i64 0, .slice none 0 0, .slice none 0 0, .slice (some ⟨w.heap.size + 1, 0, none⟩) m m]) (by intro u hu; simp only [List.mem_cons, List.not_mem_nil, or_false] at hu; rcases hu with rfl | rfl | rfl | rfl | rfl | rfl | rfl | rfl | rfl | rfl <;> rfl) rfl rfl ?_)
    intro w7 C7 f7 z7
    obtain ⟨t0, t1, t2, t3, t4, t5, t6, t7, t8, t9⟩ := obj10 C7
    go_wp2
    refine bodyPost_ret (v := .tuple #[.agg #[.int .i64 k, .bool false, .int .i64 0, .int .i64 0, .string ⟨#[]⟩, .int .i64 0, .int .i64 0, .slice none 0 0, .slice none 0 0, .slice (some ⟨w.heap.size + 1, 0, none⟩) m m], .int .i64 0]) (by simp [results, Tryz.results13, go_sem, *]) rfl ?_
    rw [hr.out]
    have hfl := flat_zeros m
    have hlen : (List.replicate m (0 : Int)).length = m := List.length_replicate
    refine ⟨.slice none 0 0, .slice none 0 0, _, rfl, ⟨Ow.nil _ _ _ _ _, Ow.nil _ _ _ _ _, ?_⟩, (((Frm.refl No w).al _).trans f1).then f7 fun k hk e => by omega⟩
    have o2 : Ow w1 (fun k => w.heap.size < k) 3 eInt (.slice (some ⟨w.heap.size + 1, 0, none⟩) m m) (List.replicate m 0) := by
      refine .inr ⟨by rw [hlen, hfl]; exact o1, fun g hg => ?_⟩
      obtain rfl := Option.some.inj hg
      show w.heap.size < w.heap.size + 1
      omega
    have o3 := o2.frm f7 fun k hk e => by omega
    show Ow w7 _ 3 eInt _ (List.replicate ((m : Int).toNat) 0)
    rw [Int.toNat_natCast]
    exact (o3.mono fun k _ h => (by omega : w.heap.size ≤ k)).fin (Nat.le_refl _)
set_option maxRecDepth 100000 in
theorem cellStable_ok {w : World} {c : CellV} {ve vl vs : Value} (h : CellR w c ve vl vs) {a : Option Addr} {n m : Nat} {l : List Int} (hl : RdS w eInt (.slice a n m) l) :
    Calls Tryz.prog 22 #[cval c ve vl vs, .slice a n m] w fun e w' => e = .returned (.bool (vUnder c.seen l)) ∧ Frm No w w' := by
  obtain ⟨he, hl', hs⟩ := h
  obtain ⟨ae, ce, rfl⟩ := he.sh
  obtain ⟨al, cl, rfl⟩ := hl'.sh
  obtain ⟨at_, cs, rfl⟩ := hs.sh
  unfold cval
  have HU := Lib.hid (fun W (f : Frm No w W) => under_ok (hs.no f) (hl.no f))
  clear he hl' hs hl
  go_enter Tryz.func22, Tryz.ntmps22
  go_wp2_with (fail)
  refine (HU.out _ ((Frm.refl No w).al _)).mono ?_
  rintro e w1 ⟨rfl, k, rfl⟩
  go_wp2_with (fail)
  go_ret
  exact ⟨rfl, ((Frm.refl No w).al _).dr k⟩
/-- May a cell be? -/
def cellMay (c : CellV) (n : Int) : Bool :=
  vecMay c.seen n && (bareC c && (if c.kind = 0 then setMay c n else if c.kind = 1 then pairMay c.num else if c.kind = 2 then entsMay c else if c.kind = 3 then elsMay c else false))
set_option maxHeartbeats 2000000 in
set_option maxRecDepth 100000 in
theorem cellMay_ok {w : World} {c : CellV} {ve vl vs : Value} (h : CellR w c ve vl vs) (hz : CellZ c) (n : Int) :
    Calls Tryz.prog 20 #[cval c ve vl vs, .int .i64 n] w fun e w' => e = .returned (.bool (cellMay c n)) ∧ Frm No w w' := by
  have HR := Lib.hid h
  obtain ⟨he, hl, hs⟩ := h
  obtain ⟨ae, ce, rfl⟩ := he.sh
  obtain ⟨al, cl, rfl⟩ := hl.sh
  obtain ⟨at_, cs, rfl⟩ := hs.sh
  have HZ := Lib.hid hz
  obtain ⟨B, hBq⟩ : ∃ B : Bool, Hid (B = cellMay c n) := ⟨_, Lib.hid rfl⟩
  rw [← hBq.out]
  obtain ⟨k, hk⟩ : ∃ k, Hid (k = c.kind) := ⟨_, Lib.hid rfl⟩
  have hcv : cval c (.slice ae c.ents.length ce) (.slice al c.elems.length cl) (.slice at_ c.seen.length cs) = .agg #[.int .i64 k, .bool c.set, .int .i64 c.st.1, .int .i64 c.st.2, .string c.value, .int .i64 c.num.1, .int .i64 c.num.2, .slice ae c.ents.length ce, .slice al c.elems.length cl, .slice at_ c.seen.length cs] := by rw [hk.out]; rfl
  rw [hcv]
  have B0' := heap_alloc_new w (.cells #[.int .i64 k, .bool c.set, .int .i64 c.st.1, .int .i64 c.st.2, .string c.value, .int .i64 c.num.1, .int .i64 c.num.2, .slice ae c.ents.length ce, .slice al c.elems.length cl, .slice at_ c.seen.length cs] 30 (0, 0))
  have hcc : Hid (cellCells c (.slice ae c.ents.length ce) (.slice al c.elems.length cl) (.slice at_ c.seen.length cs) = #[.int .i64 k, .bool c.set, .int .i64 c.st.1, .int .i64 c.st.2, .string c.value, .int .i64 c.num.1, .int .i64 c.num.2, .slice ae c.ents.length ce, .slice al c.elems.length cl, .slice at_ c.seen.length cs]) := Lib.hid (by rw [hk.out]; rfl)
  have F0 : Frm No w (w.alloc (.cells #[.int .i64 k, .bool c.set, .int .i64 c.st.1, .int .i64 c.st.2, .string c.value, .int .i64 c.num.1, .int .i64 c.num.2, .slice ae c.ents.length ce, .slice al c.elems.length cl, .slice at_ c.seen.length cs] 30 (0, 0))) := (Frm.refl No w).al _
  have HV := Lib.hid (fun W (f : Frm No w W) => vecMay_ok (HR.out.no f).s n)
  clear he hl hs hz hcv
  have hx : Hid (B = (vecMay c.seen n && (bareC c && (if k = 0 then setMay c n else if k = 1 then pairMay c.num else if k = 2 then entsMay c else if k = 3 then elsMay c else false)))) := Lib.hid (by rw [hBq.out, hk.out]; rfl)
  go_enter Tryz.func20, Tryz.ntmps20
  go_wp2_with (fail)
  refine (HV.out _ F0).mono ?_
  rintro e w' ⟨rfl, rfl⟩
  clear HV
  rcases h1 : vecMay c.seen n with _ | _
  · have hv : Hid (B = false) := Lib.hid (by rw [hx.out, h1]; rfl)
    go_wp2_with (fail)
    go_ret
    exact ⟨congrArg (fun b => Ending.returned (Value.bool b)) hv.out.symm, F0⟩
  have H1 := Lib.hid h1
  clear h1
  go_wp2_with (fail)
  refine (cellBare_ok (by rw [hcc.out]; exact B0') (HR.out.no F0)).mono ?_
  rintro e w' ⟨rfl, rfl⟩
  rcases h2 : bareC c with _ | _
  · have hv : Hid (B = false) := Lib.hid (by rw [hx.out, H1.out, h2]; rfl)
    go_wp2_with (fail)
    go_ret
    exact ⟨congrArg (fun b => Ending.returned (Value.bool b)) hv.out.symm, F0⟩
  have H2 := Lib.hid h2
  clear h2
  have hx2 : Hid (B = (if k = 0 then setMay c n else if k = 1 then pairMay c.num else if k = 2 then entsMay c else if k = 3 then elsMay c else false)) := Lib.hid (by rw [hx.out, H1.out, H2.out]; rfl)
  clear hx
  by_cases k0 : k = 0
  · subst k0
    have hv : Hid (B = setMay c n) := Lib.hid (by rw [hx2.out]; rfl)
    go_wp2_with (fail)
    refine (cellSet_ok (by rw [hcc.out]; exact B0') HZ.out.v n).mono ?_
    rintro e w' ⟨rfl, rfl⟩
    go_wp2_with (fail)
    go_ret
    exact ⟨congrArg (fun b => Ending.returned (Value.bool b)) hv.out.symm, F0⟩
  by_cases k1 : k = 1
  · subst k1
    have hv : Hid (B = pairMay c.num) := Lib.hid (by rw [hx2.out]; rfl)
    have HG := Lib.hid (fun W => gaussMay_ok c.num W)
    go_wp2_with (fail)
    refine (HG.out _).mono ?_
    rintro e w1 ⟨rfl, f1⟩
    go_wp2_with (fail)
    go_ret
    exact ⟨congrArg (fun b => Ending.returned (Value.bool b)) hv.out.symm, F0.trans f1⟩
  by_cases k2 : k = 2
  · subst k2
    have hv : Hid (B = entsMay c) := Lib.hid (by rw [hx2.out]; rfl)
    go_wp2_with (fail)
    refine (cellEntries_ok (by rw [hcc.out]; exact B0') (HR.out.no F0) HZ.out.e).mono ?_
    rintro e w1 ⟨rfl, f1⟩
    go_wp2_with (fail)
    go_ret
    exact ⟨congrArg (fun b => Ending.returned (Value.bool b)) hv.out.symm, F0.trans f1⟩
  by_cases k3 : k = 3
  · subst k3
    have hv : Hid (B = elsMay c) := Lib.hid (by rw [hx2.out]; rfl)
    go_wp2_with (fail)
    refine (cellElems_ok (by rw [hcc.out]; exact B0') (HR.out.no F0) HZ.out.l).mono ?_
    rintro e w1 ⟨rfl, f1⟩
    go_wp2_with (fail)
    go_ret
    exact ⟨congrArg (fun b => Ending.returned (Value.bool b)) hv.out.symm, F0.trans f1⟩
  · have hv : Hid (B = false) := Lib.hid (by rw [hx2.out, if_neg k0, if_neg k1, if_neg k2, if_neg k3])
    go_wp2_with (fail)
    go_ret
    exact ⟨congrArg (fun b => Ending.returned (Value.bool b)) hv.out.symm, F0⟩
end Go.Proofs.YtofikfkgiblblaaGreatDoor

/- A value stored into a block that is known whole: one step, a world that is told by the block alone. No program in sight. -/
namespace Go.Tt
set_option linter.unusedVariables false
set_option linter.unusedSimpArgs false
open Go.RowKit Go.Lib
section
variable {P : Program}
theorem run_stoC (w : World) {b off : Nat} {cur : Array Value} {v : Value} {vs : List Value} {t e : TypeId} (hB : w.heap[b]? = some (.cells cur e (0, 0))) (hv : v.cells = vs.toArray) (hi : (P.info? t).map (·.size) = some vs.length) (hl : off + vs.length ≤ cur.size) (one : ∀ v ∈ vs, v.oneCell' = true) :
    (Instr.storeAt t (.pointer (some ⟨b, off, none⟩)) v).run P w = .ok () (w.setRow b (rowPut cur.toList off vs).toArray) := by
  obtain ⟨i, hi', hs⟩ := Option.map_eq_some_iff.1 hi
  have hst := run_storeCells_at P b off e vs 0 cur w hB (by omega) one
  simp only [Nat.add_zero] at hst
  simp [Instr.storeAt, Instr.sureAddr, storeVar, sizeOf, typeInfo, hi', hs, hv, hst, rowPut]
theorem wpList_stoC (w : World) {ops : Array Oper} {rest : List Oper} {o : Oper} {a : Act} {Q : Exit → Act → World → Prop} (hgd : o.guard = none) (p x : Operand) (t : TypeId) (ho : o.op = .store t p x)
    {b off : Nat} {cur : Array Value} {v : Value} {vs : List Value} {e : TypeId} (hB : w.heap[b]? = some (.cells cur e (0, 0))) (hv : v.cells = vs.toArray) (hi : (P.info? t).map (·.size) = some vs.length) (hl : off + vs.length ≤ cur.size) (one : ∀ v ∈ vs, v.oneCell' = true)
    (hp : a.eval p = .pointer (some ⟨b, off, none⟩)) (hx : a.eval x = v) (cs' : Array Value) (hcs : (rowPut cur.toList off vs).toArray = cs')
    (h : ∀ w', w'.heap[b]? = some (.cells cs' e (0, 0)) → Frm (fun k => k = b) w w' → w'.heap.size = w.heap.size → wpList P ops Q rest (a.put o.dst undef) w') : wpList P ops Q (o :: rest) a w := by
  subst hcs
  refine wpList_plain hgd fun K hK => ?_
  have hr := run_stoC (P := P) w hB hv hi hl one
  unfold Oper.wp
  simp [execOp, ho, hp, hx, hr, Result.andThen]
  exact hK _ _ (h _ (setRow_heap w b cur _ e _ hB) ⟨rfl, rfl, rfl, by simp, fun k _ hk => setRow_other w b k _ hk⟩ (by simp))
end
end Go.Tt

/- Merged: MapD CellM3. -/
import Derived.Maps.OwnOps
import Derived.Test.YtofikfkgiblblaaGreatDoorQ27
import Derived.Test.YtofikfkgiblblaaGreatDoorQ31
/- A map of dots that a call has made: asked, written. -/
namespace Go.Proofs.YtofikfkgiblblaaGreatDoor
set_option linter.unusedVariables false
set_option linter.unusedSimpArgs false
set_option linter.unusedVariables false
set_option linter.unusedSimpArgs false
open Go.RowKit Go.Lib Go.Tt
/-- A dot as a value. -/
def dv (d : Dt) : Value := .agg #[.int .i64 d.1, .int .i64 d.2]
set_option maxRecDepth 100000 in
theorem dotEq (a b : Dt) (w : World) : (Op.equal 32 (dv a) (dv b)).run Tryz.prog w = .ok (decide (a = b)) w := by
  unfold Op.equal Op.maxDepth dv
  rw [show (10000 : Nat) = 9999 + 1 from rfl]
  go_simp
  by_cases h1 : a.1 = b.1
  · by_cases h2 : a.2 = b.2
    · rw [if_pos h1, if_pos h2, decide_eq_true (Prod.ext h1 h2)]
    · rw [if_pos h1, if_neg h2, decide_eq_false fun e => h2 (by rw [e])]
  · rw [if_neg h1, decide_eq_false fun e => h1 (by rw [e])]
set_option maxRecDepth 100000 in
theorem dotChk (a : Dt) (em : Bool) (d : Nat) (w : World) : (Instr.checkKey em (d + 1 + 1) 32 (dv a)).run Tryz.prog w = .ok () w := by
  unfold dv
  rw [Instr.checkKey]
  go_simp
  simp only [Instr.checkKey]
  go_simp
theorem asking (d : Dt) (w : World) : ∀ (es : List MapEntry) (ds : List Dt) (i : Nat), es.map (·.key) = ds.map dv → (∀ e ∈ es, e.val = .bool true) →
    (d ∉ ds ∧ (Instr.findAsking 32 (dv d) es i).run Tryz.prog w = .ok none w) ∨ (d ∈ ds ∧ ∃ j, (Instr.findAsking 32 (dv d) es i).run Tryz.prog w = .ok (some (j, .bool true)) w) := by
  intro es
  induction es with
  | nil =>
    intro ds i h _
    obtain rfl : ds = [] := by simpa using h.symm
    exact .inl ⟨by simp, rfl⟩
  | cons e es ih =>
    intro ds i h hv
    cases ds with
    | nil => simp at h
    | cons x ds =>
      simp only [List.map_cons, List.cons.injEq] at h
      rw [Instr.findAsking]
      by_cases hx : d = x
      · refine .inr ⟨by rw [hx]; exact List.mem_cons_self, i, ?_⟩
        simp only [Sem.run_bind, h.1, dotEq, decide_eq_true hx, Result.andThen_ok, if_true, hv e List.mem_cons_self]
        rfl
      · rcases ih ds (i + 1) h.2 (fun e he => hv e (List.mem_cons_of_mem _ he)) with ⟨h1, h2⟩ | ⟨h1, j, h2⟩
        · refine .inl ⟨by simp [hx, h1], ?_⟩
          simp only [Sem.run_bind, h.1, dotEq, decide_eq_false hx, Result.andThen_ok]
          simpa using h2
        · refine .inr ⟨List.mem_cons_of_mem _ h1, j, ?_⟩
          simp only [Sem.run_bind, h.1, dotEq, decide_eq_false hx, Result.andThen_ok]
          simpa using h2
theorem finding (d : Dt) (w : World) (es : List MapEntry) (ds : List Dt) (h : es.map (·.key) = ds.map dv) (hv : ∀ e ∈ es, e.val = .bool true) :
    (d ∉ ds ∧ (Instr.findKey 32 (dv d) es).run Tryz.prog w = .ok none w) ∨ (d ∈ ds ∧ ∃ j, (Instr.findKey 32 (dv d) es).run Tryz.prog w = .ok (some (j, .bool true)) w) := by
  have ha := asking d w es ds 0 h hv
  cases es with
  | nil =>
    obtain rfl : ds = [] := by simpa using h.symm
    refine .inl ⟨by simp, ?_⟩
    simp [Instr.findKey, Instr.findNow, run_underlying Tryz.underlying32]
  | cons e es =>
    have hn : (Instr.findKey 32 (dv d) (e :: es)).run Tryz.prog w = (Instr.findAsking 32 (dv d) (e :: es)).run Tryz.prog w := by
      simp [Instr.findKey, Instr.findNow, Instr.sameNow, run_underlying Tryz.underlying32]
    rw [hn]
    exact ha
/-- Block m is a map that holds just these dots, each with true. -/
def SeenM (w : World) (m : Nat) (ds : List Dt) : Prop := ∃ es clock, w.heap[m]? = some (.map es clock) ∧ es.toList.map (·.key) = ds.map dv ∧ ∀ e ∈ es.toList, e.val = .bool true
theorem SeenM.made (w : World) : SeenM (w.alloc (.map #[] 0)) w.heap.size [] := ⟨#[], 0, heap_alloc_new w _, rfl, fun e h => by simp at h⟩
theorem SeenM.no {w w' : World} {m : Nat} {ds : List Dt} (h : SeenM w m ds) (f : Frm No w w') : SeenM w' m ds := by
  obtain ⟨es, c, h1, h2, h3⟩ := h
  exact ⟨es, c, f.obj h1 id, h2, h3⟩
theorem dotChk' (d : Dt) (em : Bool) (w : World) : (Instr.checkKey em 10000 32 (dv d)).run Tryz.prog w = .ok () w := dotChk d em 9998 w
theorem SeenM.look {w : World} {m : Nat} {ds : List Dt} (h : SeenM w m ds) (d : Dt) : (Instr.lookup 129 (.map (some m)) (dv d) false).run Tryz.prog w = .ok (.bool (decide (d ∈ ds))) w := by
  obtain ⟨es, c, h1, h2, h3⟩ := h
  have hz := Tryz.zeroValue4 w
  rcases finding d w es.toList ds h2 h3 with ⟨h4, h5⟩ | ⟨h4, j, h5⟩
  · rw [decide_eq_false h4]
    simp [Instr.lookup, run_underlying Tryz.underlying129, MapKept.run_getObj_map h1, dotChk', h5, hz]
  · rw [decide_eq_true h4]
    simp [Instr.lookup, run_underlying Tryz.underlying129, MapKept.run_getObj_map h1, dotChk', h5]
theorem SeenM.upd {w : World} {m : Nat} {ds : List Dt} (h : SeenM w m ds) {d : Dt} (hd : d ∉ ds) : ∃ w', (Instr.mapUpdate 129 (.map (some m)) (dv d) (.bool true)).run Tryz.prog w = .ok () w' ∧ SeenM w' m (ds ++ [d]) ∧ Frm (fun k => k = m) w w' ∧ w'.heap.size = w.heap.size := by
  obtain ⟨es, c, h1, h2, h3⟩ := h
  rcases finding d w es.toList ds h2 h3 with ⟨h4, h5⟩ | ⟨h4, j, h5⟩
  · refine ⟨{ w with heap := w.heap.setIfInBounds m (.map (es.push { key := dv d, val := .bool true, born := c }) (c + 1)) }, ?_, ⟨es.push { key := dv d, val := .bool true, born := c }, c + 1, ?_, ?_, ?_⟩, ⟨rfl, rfl, rfl, by simp, fun k hk hm => ?_⟩, by simp⟩
    · simp [Instr.mapUpdate, run_underlying Tryz.underlying129, MapKept.run_getObj_map h1, dotChk', h5, MapKept.run_setObj_map _ h1]
    · exact (Array.getElem?_setIfInBounds_self_of_lt (lt_of_block h1))
    · simp [h2]
    · intro e he
      simp only [Array.toList_push, List.mem_append, List.mem_singleton] at he
      rcases he with he | rfl
      · exact h3 e he
      · rfl
    · exact Array.getElem?_setIfInBounds_ne fun e => hm e.symm
  · exact absurd h4 hd
theorem wpList_upd {w : World} {ops : Array Oper} {rest : List Oper} {o : Oper} {a : Act} {Q : Exit → Act → World → Prop} (hg : o.guard = none) (mo x v : Operand) (hop : o.op = Op.mapUpdate 129 mo x v)
    {m : Nat} {ds : List Dt} {d : Dt} (h : SeenM w m ds) (hd : d ∉ ds) (hm : a.eval mo = .map (some m)) (hx : a.eval x = dv d) (hv : a.eval v = .bool true)
    (hK : ∀ w', SeenM w' m (ds ++ [d]) → Frm (fun k => k = m) w w' → w'.heap.size = w.heap.size → wpList Tryz.prog ops Q rest (a.put o.dst undef) w') : wpList Tryz.prog ops Q (o :: rest) a w := by
  refine wpList_plain hg fun K' hK' => ?_
  obtain ⟨w', hr, h1, h2, h3⟩ := h.upd hd
  unfold Oper.wp
  simp [execOp, hop, hm, hx, hv, hr, Result.andThen]
  exact hK' _ _ (hK w' h1 h2 h3)
end Go.Proofs.YtofikfkgiblblaaGreatDoor

/- Layer 12: may a list's elements be? -/
namespace Go.Proofs.YtofikfkgiblblaaGreatDoor
set_option linter.unusedVariables false
set_option linter.unusedSimpArgs false
open Go.RowKit Go.Lib Go.Tt Go.Shelf
def elDot (x : El) : Dt := (x.1, x.2.1)
abbrev El0 : El := (0, 0, 0, ⟨#[]⟩, false)
/-- The first k elements may be, each of another dot. -/
def elsRow (c : CellV) (k : Nat) : Prop := ∀ j, j < k → elDot (c.elems.getD j El0) ∉ (c.elems.take j).map elDot ∧ vHas c.seen (elDot (c.elems.getD j El0)) = true ∧ timeMay (c.elems.getD j El0).2.2.1 = true ∧ (c.elems.getD j El0).2.2.2.1.size ≤ 256 ∧ ((c.elems.getD j El0).2.2.2.2 = true → (c.elems.getD j El0).2.2.2.1.size = 0)
instance (c : CellV) (k : Nat) : Decidable (elsRow c k) := by unfold elsRow; infer_instance
def elsMay (c : CellV) : Bool := decide (elsRow c c.elems.length)
set_option maxHeartbeats 4000000 in
set_option maxRecDepth 100000 in
theorem cellElems_ok {w : World} {b0 : Nat} {c : CellV} {ve vl vs : Value} (hB : w.heap[b0]? = some (.cells (cellCells c ve vl vs) 30 (0, 0))) (hR : CellR w c ve vl vs) (hz : ∀ x ∈ c.elems, x.2.2.2.1.size ≤ 2 ^ 63 - 1) :
    Calls Tryz.prog 52 #[.pointer (some ⟨b0, 0, none⟩)] w fun e w' => e = .returned (.bool (elsMay c)) ∧ Frm No w w' := by
  obtain ⟨al, cl, rfl⟩ := hR.l.sh
  obtain ⟨at_, cs, rfl⟩ := hR.s.sh
  have hlm : c.elems.length ≤ 9223372036854775807 := by have h := hR.l.facts; have := h.2.1; have := h.2.2.1; unfold maxLen at *; omega
  obtain ⟨B, hBq⟩ : ∃ B : Bool, Hid (B = elsMay c) := ⟨_, Lib.hid rfl⟩
  rw [← hBq.out]
  have nb := lt_of_block hB
  have q8 : w.cell? ⟨b0, 8, none⟩ = some (.slice al c.elems.length cl) := (cellBlk hB).2.2.2.2.2.2.2.2.1
  have HB := Lib.hid hB
  have HE := Lib.hid hR.l
  have HS := Lib.hid hR.s
  have HZ := Lib.hid hz
  clear hB hR hz
  obtain ⟨n, hn⟩ : ∃ n, Hid (n = c.elems.length) := ⟨_, Lib.hid rfl⟩
  rw [← hn.out] at q8 hlm HE
  have HQ := Lib.hid q8
  have hmm := @run_makeMap Tryz.prog
  go_enter Tryz.func52, Tryz.ntmps52
  go_wp2_with (fail)
  clear q8 hmm
  go_loopg [12] (n + 1) (fun g iv wr => ∃ i : Nat, iv = .int .i64 i ∧ Frm No w wr ∧ i ≤ n ∧ g = n - i + 1 ∧ SeenM wr w.heap.size ((c.elems.take i).map elDot) ∧ elsRow c i)
  case atStart => exact ⟨0, rfl, (Frm.refl No w).al _, Nat.zero_le _, by omega, SeenM.made w, fun j hj => by omega⟩
  case round =>
    obtain ⟨i, rfl, F, hi, hg, S, hp⟩ := hrel
    have hG := Lib.hid hg
    have hP := Lib.hid hp
    clear hg hp
    by_cases hlt : i < n
    · have l1 : i < c.elems.length := by rw [← hn.out]; exact hlt
      obtain ⟨b, off, rfl, hb, hc⟩ := (HE.out.no F).at l1
      have e0 : wr.cell? ⟨b, off + i * 5, none⟩ = some (.int .i64 c.elems[i].1) := hc 0 _ rfl
      have e1 : wr.cell? ⟨b, off + i * 5 + 1, none⟩ = some (.int .i64 c.elems[i].2.1) := hc 1 _ rfl
      have e2 : wr.cell? ⟨b, off + i * 5 + 2, none⟩ = some (.int .i64 c.elems[i].2.2.1) := hc 2 _ rfl
      have e3 : wr.cell? ⟨b, off + i * 5 + 3, none⟩ = some (.string c.elems[i].2.2.2.1) := hc 3 _ rfl
      have e4 : wr.cell? ⟨b, off + i * 5 + 4, none⟩ = some (.bool c.elems[i].2.2.2.2) := hc 4 _ rfl
      clear hc
      have q9 : wr.cell? ⟨b0, 9, none⟩ = some (.slice at_ c.seen.length cs) := (cellBlk (F.obj HB.out id)).2.2.2.2.2.2.2.2.2
      have nb' : b0 < wr.heap.size := Nat.lt_of_lt_of_le nb F.size
      have HC := Lib.hid (fun W (f : Frm No wr W) => has_ok (HS.out.no (F.trans f)) (elDot c.elems[i]))
      have HV2 := Lib.hid (fun W => lwwValue_ok c.elems[i].2.2.2.1 W (HZ.out _ (List.getElem_mem l1)))
      have HT2 := Lib.hid (fun W => time_ok c.elems[i].2.2.1 W)
      have HX : Hid (c.elems.getD i El0 = c.elems[i]) := Lib.hid (gd l1)
      have hst : Hid ((c.elems.take i).map elDot ++ [elDot c.elems[i]] = (c.elems.take (i + 1)).map elDot) := Lib.hid (by rw [List.take_succ_eq_append_getElem l1, List.map_append]; rfl)
      obtain ⟨x, hx⟩ : ∃ x, Hid (x = c.elems[i]) := ⟨_, Lib.hid rfl⟩
      rw [← hx.out] at e0 e1 e2 e3 e4 HC HV2 HT2 HX hst
      have HLK : Hid (∀ W, Frm No wr W → (Instr.lookup 129 (.map (some w.heap.size)) (.agg #[.int .i64 x.1, .int .i64 x.2.1]) false).run Tryz.prog W = .ok (.bool (decide (elDot x ∈ (c.elems.take i).map elDot))) W) := Lib.hid (fun W f => (S.no f).look (elDot x))
      rcases hm : decide (elDot x ∈ (c.elems.take i).map elDot) with _ | _
      case true =>
        have HVx : Hid (B = false) := Lib.hid (by
          rw [hBq.out]
          refine decide_eq_false fun h => ?_
          have h := h i l1
          rw [HX.out] at h
          exact h.1 (of_decide_eq_true hm))
        rw [hm] at HLK
        clear hm
        go_wp2_with (fail)
        refine wp_region_plan [([0, 1, 2, 3, 4, 5, 6, 7, 8, 9, 10, 11, 12, 13, 14, 15, 16, 17, 18, 19, 20, 21, 22, 23, 24, 25, 26, 27, 28, 29, 30, 31, 32, 33, 34], [])] 55 (by kernel_rfl) (by kernel_rfl) (by simp) ?_
        intro N hN
        simp only [wpSegs, List.map_cons, List.map_nil, List.getD_cons_zero, List.getD_cons_succ]
        go_wp2_with (fail)
        rw [HLK.out]
        rotate_left
        · exact ((Frm.refl No wr).al _).trans (Frm.drew No _)
        go_wp2_with (fail)
        go_ret
        exact ⟨congrArg (fun b => Ending.returned (Value.bool b)) HVx.out.symm, (F.al _).dr _⟩
      have HND := Lib.hid (of_decide_eq_false hm)
      rw [hm] at HLK
      clear hm
      rcases hv : vHas c.seen (elDot x) with _ | _
      · have HVx : Hid (B = false) := Lib.hid (by
          rw [hBq.out]
          refine decide_eq_false fun h => ?_
          have h := h i l1
          rw [HX.out] at h
          rw [hv] at h; cases h.2.1)
        rw [hv] at HC
        clear hv
        unfold elDot at HC
        go_wp2_with (fail)
        refine wp_region_plan [([0, 1, 2, 3, 4, 5, 6, 7, 8, 9, 10, 11, 12, 13, 14, 15, 16, 17, 18, 19, 20, 21, 22, 23, 24, 25, 26, 27, 28, 29, 30, 31, 32, 33, 34], [])] 55 (by kernel_rfl) (by kernel_rfl) (by simp) ?_
        intro N hN
        simp only [wpSegs, List.map_cons, List.map_nil, List.getD_cons_zero, List.getD_cons_succ]
        go_wp2_with (fail)
        rw [HLK.out]
        rotate_left
        · exact ((Frm.refl No wr).al _).trans (Frm.drew No _)
        go_wp2_with (fail)
        refine (HC.out _ (((Frm.refl No wr).al _).dr _)).mono ?_
        rintro e w1 ⟨rfl, f1⟩
        have C1 : w1.heap[wr.heap.size]? = some (.cells #[.int .i64 x.1, .int .i64 x.2.1, .int .i64 x.2.2.1, .string x.2.2.2.1, .bool x.2.2.2.2] 59 (0, 0)) := f1.obj (show ((wr.alloc (.cells #[.int .i64 x.1, .int .i64 x.2.1, .int .i64 x.2.2.1, .string x.2.2.2.1, .bool x.2.2.2.2] 59 (0, 0))).drewN 1).heap[wr.heap.size]? = _ from heap_alloc_new wr _) id
        have F1 : Frm No wr w1 := (((Frm.refl No wr).al _).dr _).trans f1
        have c0 : w1.cell? ⟨wr.heap.size, 0, none⟩ = some (.int .i64 x.1) := obj_cell C1 0
        have c1 : w1.cell? ⟨wr.heap.size, 1, none⟩ = some (.int .i64 x.2.1) := obj_cell C1 1
        have c2 : w1.cell? ⟨wr.heap.size, 2, none⟩ = some (.int .i64 x.2.2.1) := obj_cell C1 2
        have c3 : w1.cell? ⟨wr.heap.size, 3, none⟩ = some (.string x.2.2.2.1) := obj_cell C1 3
        have c4 : w1.cell? ⟨wr.heap.size, 4, none⟩ = some (.bool x.2.2.2.2) := obj_cell C1 4
        have nc := lt_of_block C1
        have S1 := S.no F1
        clear f1 HC HLK
        go_wp2_with (fail)
        go_ret
        exact ⟨congrArg (fun b => Ending.returned (Value.bool b)) HVx.out.symm, F.trans F1⟩
      have HV := Lib.hid hv
      rw [hv] at HC
      clear hv
      unfold elDot at HC
      rcases ht : timeMay x.2.2.1 with _ | _
      · have HVx : Hid (B = false) := Lib.hid (by
          rw [hBq.out]
          refine decide_eq_false fun h => ?_
          have h := h i l1
          rw [HX.out] at h
          rw [ht] at h; cases h.2.2.1)
        rw [ht] at HT2
        clear ht
        go_wp2_with (fail)
        refine wp_region_plan [([0, 1, 2, 3, 4, 5, 6, 7, 8, 9, 10, 11, 12, 13, 14, 15, 16, 17, 18, 19, 20, 21, 22, 23, 24, 25, 26, 27, 28, 29, 30, 31, 32, 33, 34], [])] 55 (by kernel_rfl) (by kernel_rfl) (by simp) ?_
        intro N hN
        simp only [wpSegs, List.map_cons, List.map_nil, List.getD_cons_zero, List.getD_cons_succ]
        go_wp2_with (fail)
        rw [HLK.out]
        rotate_left
        · exact ((Frm.refl No wr).al _).trans (Frm.drew No _)
        go_wp2_with (fail)
        refine (HC.out _ (((Frm.refl No wr).al _).dr _)).mono ?_
        rintro e w1 ⟨rfl, f1⟩
        have C1 : w1.heap[wr.heap.size]? = some (.cells #[.int .i64 x.1, .int .i64 x.2.1, .int .i64 x.2.2.1, .string x.2.2.2.1, .bool x.2.2.2.2] 59 (0, 0)) := f1.obj (show ((wr.alloc (.cells #[.int .i64 x.1, .int .i64 x.2.1, .int .i64 x.2.2.1, .string x.2.2.2.1, .bool x.2.2.2.2] 59 (0, 0))).drewN 1).heap[wr.heap.size]? = _ from heap_alloc_new wr _) id
        have F1 : Frm No wr w1 := (((Frm.refl No wr).al _).dr _).trans f1
        have c0 : w1.cell? ⟨wr.heap.size, 0, none⟩ = some (.int .i64 x.1) := obj_cell C1 0
        have c1 : w1.cell? ⟨wr.heap.size, 1, none⟩ = some (.int .i64 x.2.1) := obj_cell C1 1
        have c2 : w1.cell? ⟨wr.heap.size, 2, none⟩ = some (.int .i64 x.2.2.1) := obj_cell C1 2
        have c3 : w1.cell? ⟨wr.heap.size, 3, none⟩ = some (.string x.2.2.2.1) := obj_cell C1 3
        have c4 : w1.cell? ⟨wr.heap.size, 4, none⟩ = some (.bool x.2.2.2.2) := obj_cell C1 4
        have nc := lt_of_block C1
        have S1 := S.no F1
        clear f1 HC HLK
        go_wp2_with (fail)
        refine (HT2.out _).mono ?_
        rintro e w' ⟨rfl, rfl⟩
        go_wp2_with (fail)
        go_ret
        exact ⟨congrArg (fun b => Ending.returned (Value.bool b)) HVx.out.symm, F.trans F1⟩
      have HTM := Lib.hid ht
      rw [ht] at HT2
      clear ht
      rcases hs : decide (x.2.2.2.1.size ≤ 256) with _ | _
      · have HVx : Hid (B = false) := Lib.hid (by
          rw [hBq.out]
          refine decide_eq_false fun h => ?_
          have h := h i l1
          rw [HX.out] at h
          exact of_decide_eq_false hs h.2.2.2.1)
        rw [hs] at HV2
        clear hs
        go_wp2_with (fail)
        refine wp_region_plan [([0, 1, 2, 3, 4, 5, 6, 7, 8, 9, 10, 11, 12, 13, 14, 15, 16, 17, 18, 19, 20, 21, 22, 23, 24, 25, 26, 27, 28, 29, 30, 31, 32, 33, 34], [])] 55 (by kernel_rfl) (by kernel_rfl) (by simp) ?_
        intro N hN
        simp only [wpSegs, List.map_cons, List.map_nil, List.getD_cons_zero, List.getD_cons_succ]
        go_wp2_with (fail)
        rw [HLK.out]
        rotate_left
        · exact ((Frm.refl No wr).al _).trans (Frm.drew No _)
        go_wp2_with (fail)
        refine (HC.out _ (((Frm.refl No wr).al _).dr _)).mono ?_
        rintro e w1 ⟨rfl, f1⟩
        have C1 : w1.heap[wr.heap.size]? = some (.cells #[.int .i64 x.1, .int .i64 x.2.1, .int .i64 x.2.2.1, .string x.2.2.2.1, .bool x.2.2.2.2] 59 (0, 0)) := f1.obj (show ((wr.alloc (.cells #[.int .i64 x.1, .int .i64 x.2.1, .int .i64 x.2.2.1, .string x.2.2.2.1, .bool x.2.2.2.2] 59 (0, 0))).drewN 1).heap[wr.heap.size]? = _ from heap_alloc_new wr _) id
        have F1 : Frm No wr w1 := (((Frm.refl No wr).al _).dr _).trans f1
        have c0 : w1.cell? ⟨wr.heap.size, 0, none⟩ = some (.int .i64 x.1) := obj_cell C1 0
        have c1 : w1.cell? ⟨wr.heap.size, 1, none⟩ = some (.int .i64 x.2.1) := obj_cell C1 1
        have c2 : w1.cell? ⟨wr.heap.size, 2, none⟩ = some (.int .i64 x.2.2.1) := obj_cell C1 2
        have c3 : w1.cell? ⟨wr.heap.size, 3, none⟩ = some (.string x.2.2.2.1) := obj_cell C1 3
        have c4 : w1.cell? ⟨wr.heap.size, 4, none⟩ = some (.bool x.2.2.2.2) := obj_cell C1 4
        have nc := lt_of_block C1
        have S1 := S.no F1
        clear f1 HC HLK
        go_wp2_with (fail)
        refine (HT2.out _).mono ?_
        rintro e w' ⟨rfl, rfl⟩
        go_wp2_with (fail)
        refine (HV2.out _).mono ?_
        rintro e w' ⟨rfl, rfl⟩
        go_wp2_with (fail)
        go_ret
        exact ⟨congrArg (fun b => Ending.returned (Value.bool b)) HVx.out.symm, F.trans F1⟩
      have HSZ := Lib.hid (of_decide_eq_true hs)
      rw [hs] at HV2
      clear hs
      have HSTEP0 : Hid ((x.2.2.2.2 = true → x.2.2.2.1.size = 0) → elsRow c (i + 1)) := Lib.hid (fun hgo j hj => by
        rcases Nat.lt_or_ge j i with h4 | h4
        · exact hP.out j h4
        · obtain rfl : j = i := by omega
          rw [HX.out]
          exact ⟨HND.out, HV.out, HTM.out, HSZ.out, hgo⟩)
      rcases hgo : x.2.2.2.2 with _ | _
      · have HSTEP := Lib.hid (HSTEP0.out fun h => by rw [hgo] at h; cases h)
        rw [hgo] at e4
        go_wp2_with (fail)
        refine wp_region_plan [([0, 1, 2, 3, 4, 5, 6, 7, 8, 9, 10, 11, 12, 13, 14, 15, 16, 17, 18, 19, 20, 21, 22, 23, 24, 25, 26, 27, 28, 29, 30, 31, 32, 33, 34], [])] 55 (by kernel_rfl) (by kernel_rfl) (by simp) ?_
        intro N hN
        simp only [wpSegs, List.map_cons, List.map_nil, List.getD_cons_zero, List.getD_cons_succ]
        go_wp2_with (fail)
        rw [HLK.out]
        rotate_left
        · exact ((Frm.refl No wr).al _).trans (Frm.drew No _)
        go_wp2_with (fail)
        refine (HC.out _ (((Frm.refl No wr).al _).dr _)).mono ?_
        rintro e w1 ⟨rfl, f1⟩
        have C1 : w1.heap[wr.heap.size]? = some (.cells #[.int .i64 x.1, .int .i64 x.2.1, .int .i64 x.2.2.1, .string x.2.2.2.1, .bool false] 59 (0, 0)) := f1.obj (show ((wr.alloc (.cells #[.int .i64 x.1, .int .i64 x.2.1, .int .i64 x.2.2.1, .string x.2.2.2.1, .bool false] 59 (0, 0))).drewN 1).heap[wr.heap.size]? = _ from heap_alloc_new wr _) id
        have F1 : Frm No wr w1 := (((Frm.refl No wr).al _).dr _).trans f1
        have c0 : w1.cell? ⟨wr.heap.size, 0, none⟩ = some (.int .i64 x.1) := obj_cell C1 0
        have c1 : w1.cell? ⟨wr.heap.size, 1, none⟩ = some (.int .i64 x.2.1) := obj_cell C1 1
        have c2 : w1.cell? ⟨wr.heap.size, 2, none⟩ = some (.int .i64 x.2.2.1) := obj_cell C1 2
        have c3 : w1.cell? ⟨wr.heap.size, 3, none⟩ = some (.string x.2.2.2.1) := obj_cell C1 3
        have c4 : w1.cell? ⟨wr.heap.size, 4, none⟩ = some (.bool false) := obj_cell C1 4
        have nc := lt_of_block C1
        have S1 := S.no F1
        clear f1 HC HLK
        go_wp2_with (fail)
        refine (HT2.out _).mono ?_
        rintro e w' ⟨rfl, rfl⟩
        go_wp2_with (fail)
        refine (HV2.out _).mono ?_
        rintro e w' ⟨rfl, rfl⟩
        go_wp2_with (refine wpList_upd rfl (.tmp 51) (.tmp 53) (.const (.bool true)) rfl S1 (d := elDot x) HND.out rfl rfl rfl ?_)
        intro w5 S5 f5 z5
        have F5 : Frm No w w5 := (F.trans F1).then f5 fun k hk e => by omega
        clear c0 c1 c2 c3 c4 nc
        go_wp2_with (fail)
        go_roundg (n - (i + 1) + 1)
        case measure => have := hG.out; omega
        case rel => exact ⟨i + 1, by go_num, F5, by omega, rfl, by rw [← hst.out]; simpa only [List.map_take] using S5, HSTEP.out⟩
      · rw [hgo] at e4
        by_cases h0 : x.2.2.2.1.size = 0
        · have HSTEP := Lib.hid (HSTEP0.out fun _ => h0)
          have h0' := ba_nil h0
          rw [h0'] at e3 HV2
          clear h0 h0'
          go_wp2_with (fail)
          refine wp_region_plan [([0, 1, 2, 3, 4, 5, 6, 7, 8, 9, 10, 11, 12, 13, 14, 15, 16, 17, 18, 19, 20, 21, 22, 23, 24, 25, 26, 27, 28, 29, 30, 31, 32, 33, 34], [])] 55 (by kernel_rfl) (by kernel_rfl) (by simp) ?_
          intro N hN
          simp only [wpSegs, List.map_cons, List.map_nil, List.getD_cons_zero, List.getD_cons_succ]
          go_wp2_with (fail)
          rw [HLK.out]
          rotate_left
          · exact ((Frm.refl No wr).al _).trans (Frm.drew No _)
          go_wp2_with (fail)
          refine (HC.out _ (((Frm.refl No wr).al _).dr _)).mono ?_
          rintro e w1 ⟨rfl, f1⟩
          have C1 : w1.heap[wr.heap.size]? = some (.cells #[.int .i64 x.1, .int .i64 x.2.1, .int .i64 x.2.2.1, .string ⟨#[]⟩, .bool true] 59 (0, 0)) := f1.obj (show ((wr.alloc (.cells #[.int .i64 x.1, .int .i64 x.2.1, .int .i64 x.2.2.1, .string ⟨#[]⟩, .bool true] 59 (0, 0))).drewN 1).heap[wr.heap.size]? = _ from heap_alloc_new wr _) id
          have F1 : Frm No wr w1 := (((Frm.refl No wr).al _).dr _).trans f1
          have c0 : w1.cell? ⟨wr.heap.size, 0, none⟩ = some (.int .i64 x.1) := obj_cell C1 0
          have c1 : w1.cell? ⟨wr.heap.size, 1, none⟩ = some (.int .i64 x.2.1) := obj_cell C1 1
          have c2 : w1.cell? ⟨wr.heap.size, 2, none⟩ = some (.int .i64 x.2.2.1) := obj_cell C1 2
          have c3 : w1.cell? ⟨wr.heap.size, 3, none⟩ = some (.string ⟨#[]⟩) := obj_cell C1 3
          have c4 : w1.cell? ⟨wr.heap.size, 4, none⟩ = some (.bool true) := obj_cell C1 4
          have nc := lt_of_block C1
          have S1 := S.no F1
          clear f1 HC HLK
          go_wp2_with (fail)
          refine (HT2.out _).mono ?_
          rintro e w' ⟨rfl, rfl⟩
          go_wp2_with (fail)
          refine (HV2.out _).mono ?_
          rintro e w' ⟨rfl, rfl⟩
          go_wp2_with (refine wpList_upd rfl (.tmp 51) (.tmp 53) (.const (.bool true)) rfl S1 (d := elDot x) HND.out rfl rfl rfl ?_)
          intro w5 S5 f5 z5
          have F5 : Frm No w w5 := (F.trans F1).then f5 fun k hk e => by omega
          clear c0 c1 c2 c3 c4 nc
          go_wp2_with (fail)
          go_roundg (n - (i + 1) + 1)
          case measure => have := hG.out; omega
          case rel => exact ⟨i + 1, by go_num, F5, by omega, rfl, by rw [← hst.out]; simpa only [List.map_take] using S5, HSTEP.out⟩
        · have h0' := ba_pos h0
          have HVx : Hid (B = false) := Lib.hid (by
            rw [hBq.out]
            refine decide_eq_false fun h => ?_
            have h := h i l1
            rw [HX.out] at h
            exact h0 (h.2.2.2.2 hgo))
          clear h0 HSTEP0
          go_wp2_with (fail)
          refine wp_region_plan [([0, 1, 2, 3, 4, 5, 6, 7, 8, 9, 10, 11, 12, 13, 14, 15, 16, 17, 18, 19, 20, 21, 22, 23, 24, 25, 26, 27, 28, 29, 30, 31, 32, 33, 34], [])] 55 (by kernel_rfl) (by kernel_rfl) (by simp) ?_
          intro N hN
          simp only [wpSegs, List.map_cons, List.map_nil, List.getD_cons_zero, List.getD_cons_succ]
          go_wp2_with (fail)
          rw [HLK.out]
          rotate_left
          · exact ((Frm.refl No wr).al _).trans (Frm.drew No _)
          go_wp2_with (fail)
          refine (HC.out _ (((Frm.refl No wr).al _).dr _)).mono ?_
          rintro e w1 ⟨rfl, f1⟩
          have C1 : w1.heap[wr.heap.size]? = some (.cells #[.int .i64 x.1, .int .i64 x.2.1, .int .i64 x.2.2.1, .string x.2.2.2.1, .bool true] 59 (0, 0)) := f1.obj (show ((wr.alloc (.cells #[.int .i64 x.1, .int .i64 x.2.1, .int .i64 x.2.2.1, .string x.2.2.2.1, .bool true] 59 (0, 0))).drewN 1).heap[wr.heap.size]? = _ from heap_alloc_new wr _) id
          have F1 : Frm No wr w1 := (((Frm.refl No wr).al _).dr _).trans f1
          have c0 : w1.cell? ⟨wr.heap.size, 0, none⟩ = some (.int .i64 x.1) := obj_cell C1 0
          have c1 : w1.cell? ⟨wr.heap.size, 1, none⟩ = some (.int .i64 x.2.1) := obj_cell C1 1
          have c2 : w1.cell? ⟨wr.heap.size, 2, none⟩ = some (.int .i64 x.2.2.1) := obj_cell C1 2
          have c3 : w1.cell? ⟨wr.heap.size, 3, none⟩ = some (.string x.2.2.2.1) := obj_cell C1 3
          have c4 : w1.cell? ⟨wr.heap.size, 4, none⟩ = some (.bool true) := obj_cell C1 4
          have nc := lt_of_block C1
          have S1 := S.no F1
          clear f1 HC HLK
          go_wp2_with (fail)
          refine (HT2.out _).mono ?_
          rintro e w' ⟨rfl, rfl⟩
          go_wp2_with (fail)
          refine (HV2.out _).mono ?_
          rintro e w' ⟨rfl, rfl⟩
          go_wp2_with (fail)
          go_ret
          exact ⟨congrArg (fun b => Ending.returned (Value.bool b)) HVx.out.symm, F.trans F1⟩
    · have hii : ¬ ((i : Int) < n) := by omega
      obtain rfl : i = n := by omega
      have hv : Hid (B = true) := Lib.hid (by
        rw [hBq.out]
        refine decide_eq_true ?_
        rw [← hn.out]
        exact hP.out)
      go_wp2_with (fail)
      go_ret
      exact ⟨congrArg (fun b => Ending.returned (Value.bool b)) hv.out.symm, F⟩
end Go.Proofs.YtofikfkgiblblaaGreatDoor

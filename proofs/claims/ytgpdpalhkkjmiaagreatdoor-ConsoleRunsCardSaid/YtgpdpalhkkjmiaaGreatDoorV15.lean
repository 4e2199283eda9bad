/- Merged: OpM1 OpM2 Rga1. -/
import Derived.ScopeJumps
import Derived.WalkMore
import Derived.Test.YtgpdpalhkkjmiaaGreatDoorV06
import Derived.Test.YtgpdpalhkkjmiaaGreatDoorV09
import Derived.Test.YtgpdpalhkkjmiaaGreatDoorV11
import Derived.Test.YtgpdpalhkkjmiaaGreatDoorV14
/- Layer 11: names, ids, numbers, dots that are dropped. -/
namespace Go.Proofs.YtgpdpalhkkjmiaaGreatDoor
set_option linter.unusedVariables false
set_option linter.unusedSimpArgs false
set_option linter.unusedVariables false
set_option linter.unusedSimpArgs false
open Go.RowKit Go.Lib Go.Tt
def firstB (x : Int) : Bool := decide (97 ≤ x ∧ x ≤ 122 ∨ 65 ≤ x ∧ x ≤ 90 ∨ x = 95)
def digB (x : Int) : Bool := decide (48 ≤ x ∧ x ≤ 57)
/-- Is a text a name? -/
def nameMay (s : ByteArray) : Bool := decide ((0 < s.size ∧ s.size ≤ 32 ∧ firstB (s.data.toList.getD 0 0).toNat = true) ∧ ∀ i, i < s.data.toList.length → (firstB (s.data.toList.getD i 0).toNat = true ∨ digB (s.data.toList.getD i 0).toNat = true))
theorem bget (s : ByteArray) {i : Nat} (h : i < s.size) : s.data.toList.getD i 0 = s[i] := by
  have h' : i < s.data.toList.length := by simpa using h
  simp [List.getD, List.getElem?_eq_getElem h']
  rfl
def idMay (s : ByteArray) : Bool := decide (0 < s.size ∧ s.size ≤ 256)
/-- May a number be that is added? -/
def numMay (p : Int × Int) : Bool := decide ((-1099511627776 ≤ p.1 ∧ p.1 ≤ 1099511627776) ∧ -1099511627776 ≤ p.2 ∧ p.2 ≤ 1099511627776)
end Go.Proofs.YtgpdpalhkkjmiaaGreatDoor

/- Layer 11: may dots be dropped; operations as values; of which kind a cell is that an operation is for. -/
namespace Go.Proofs.YtgpdpalhkkjmiaaGreatDoor
set_option linter.unusedVariables false
set_option linter.unusedSimpArgs false
open Go.RowKit Go.Lib Go.Tt
theorem again_off {P : Program} {ops : Array Oper} {k : Nat} {o : Oper} {a : Act} {w : World} (hk : ops[k]? = some o) (h : Region.wanted o (yielded ops a.tmps) = false) : Again P ops k a w := by
  intro o' d' hk' _ hw
  rw [hk] at hk'
  obtain rfl := Option.some.inj hk'
  rw [h] at hw
  cases hw
/-- The first k dots are had, in their row. -/
def dotsRow (deps : List Int) (ds : List Dt) (k : Nat) : Prop := ∀ j, j < k → vHas deps (ds.getD j (0, 0)) = true ∧ (0 < j → dotLess (ds.getD (j - 1) (0, 0)) (ds.getD j (0, 0)) = true)
instance (deps : List Int) (ds : List Dt) (k : Nat) : Decidable (dotsRow deps ds k) := by unfold dotsRow; infer_instance
def dotsMay (ds : List Dt) (deps : List Int) : Bool := decide (dotsRow deps ds ds.length ∧ ds.length ≤ 64)
theorem cmp_less (a b : Dt) : (orI (cmpI a.1 b.1) (cmpI a.2 b.2) < 0) ↔ dotLess a b = true := by
  unfold dotLess orI cmpI
  rw [decide_eq_true_iff]
  by_cases h1 : a.1 < b.1
  · rw [if_pos h1]; simp; omega
  · rw [if_neg h1]
    by_cases h2 : b.1 < a.1
    · rw [if_pos h2]; simp; omega
    · rw [if_neg h2]
      simp only [if_true]
      by_cases h3 : a.2 < b.2
      · rw [if_pos h3]; simp; omega
      · rw [if_neg h3]
        by_cases h4 : b.2 < a.2
        · rw [if_pos h4]; simp; omega
        · rw [if_neg h4]; simp; omega
theorem gd {α : Type} {l : List α} {i : Nat} {d : α} (h : i < l.length) : l.getD i d = l[i] := by simp [List.getD, List.getElem?_eq_getElem h]
theorem dotsRow_step {deps : List Int} {ds : List Dt} {k : Nat} (h : dotsRow deps ds k) (h1 : vHas deps (ds.getD k (0, 0)) = true) (h2 : 0 < k → dotLess (ds.getD (k - 1) (0, 0)) (ds.getD k (0, 0)) = true) : dotsRow deps ds (k + 1) := fun j hj => by
  rcases Nat.lt_or_ge j k with h3 | h3
  · exact h j h3
  · obtain rfl : j = k := by omega
    exact ⟨h1, h2⟩
end Go.Proofs.YtgpdpalhkkjmiaaGreatDoor

/- Layers 3 and 10: stamps' row; where an element stands. -/
namespace Go.Proofs.YtgpdpalhkkjmiaaGreatDoor
set_option linter.unusedVariables false
set_option linter.unusedSimpArgs false
open Go.RowKit Go.Lib Go.Tt Go.Shelf
set_option maxRecDepth 100000 in
theorem dotOrder_ok (a b : Dt) (w : World) : Calls Tryz.prog 179 #[.agg #[.int .i64 a.1, .int .i64 a.2], .agg #[.int .i64 b.1, .int .i64 b.2]] w fun e w' => e = .returned (.int .i64 (orI (cmpI a.1 b.1) (cmpI a.2 b.2))) ∧ Frm No w w' := by
  have hc1 := fun W => compare_ok a.1 b.1 W
  have hc2 := fun W => compare_ok a.2 b.2 W
  obtain ⟨u, hu⟩ : ∃ u, Hid (u = cmpI a.1 b.1) := ⟨_, Lib.hid rfl⟩
  obtain ⟨v, hv⟩ : ∃ v, Hid (v = cmpI a.2 b.2) := ⟨_, Lib.hid rfl⟩
  rw [← hu.out] at hc1 ⊢
  rw [← hv.out] at hc2 ⊢
  go_enter Tryz.func179, Tryz.ntmps179
  go_wp2
  refine wp_region_plan [([0, 1, 2, 3, 5, 6, 7, 8, 4], [8, 6]), ([9, 10, 11, 12], [])] 17 (by kernel_rfl) (by kernel_rfl) (by simp) ?_
  intro N hN
  simp only [wpSegs, List.map_cons, List.map_nil, List.getD_cons_zero, List.getD_cons_succ]
  go_wp2_with (fail)
  refine (hc1 _).mono ?_
  rintro e w' ⟨rfl, rfl⟩
  go_wp2_with (fail)
  refine ⟨again_cons (again_of rfl rfl ?_) (again_cons (again_of rfl rfl ?_) again_nil), ?_⟩
  · go_simp
  · go_simp
  go_wp2_with (fail)
  refine (hc2 _).mono ?_
  rintro e w' ⟨rfl, rfl⟩
  go_wp2_with (fail)
  refine (or_ok (x := u) (y := v) (obj_cell (al_at (by simp)) 0) (obj_cell (al_at (by simp)) 1)).mono ?_
  rintro e w1 ⟨rfl, rfl⟩
  go_wp2
  go_ret
  exact ⟨rfl, ((((Frm.refl No w).al _).al _).al _).dr 1⟩
set_option maxRecDepth 100000 in
theorem stLess_ok (a b : Dt) (w : World) : Calls Tryz.prog 148 #[.agg #[.int .i64 a.1, .int .i64 a.2], .agg #[.int .i64 b.1, .int .i64 b.2]] w fun e w' => e = .returned (.bool (dotLess a b)) ∧ Frm No w w' := by
  have hc := Lib.hid (fun W => dotOrder_ok a b W)
  have HL := Lib.hid (cmp_less a b)
  obtain ⟨u, hu⟩ : ∃ u, Hid (u = orI (cmpI a.1 b.1) (cmpI a.2 b.2)) := ⟨_, Lib.hid rfl⟩
  rw [← hu.out] at hc HL
  obtain ⟨B, hB⟩ : ∃ B, Hid (B = dotLess a b) := ⟨_, Lib.hid rfl⟩
  rw [← hB.out] at HL ⊢
  go_enter Tryz.func148, Tryz.ntmps148
  go_wp2_with (fail)
  refine (hc.out _).mono ?_
  rintro e w1 ⟨rfl, f1⟩
  go_wp2_with (fail)
  all_goals go_ret
  all_goals refine ⟨congrArg (fun b => Ending.returned (Value.bool b)) ?_, (((Frm.refl No w).al _).al _).trans f1⟩
  all_goals have h := HL.out
  all_goals first | (rw [Bool.eq_iff_iff, decide_eq_true_iff]; exact h) | (have := h.1 (by omega); exact this.symm) | (cases hb : B with | false => rfl | true => have := h.2 hb; omega)
set_option maxRecDepth 100000 in
theorem find1_ok {w : World} {B : Nat} {d : Dt} (hB : w.heap[B]? = some (.cells #[.int .i64 d.1, .int .i64 d.2] 83 (0, 0))) (x : El) :
    Calls Tryz.prog 147 #[.agg #[.int .i64 x.1, .int .i64 x.2.1, .int .i64 x.2.2.1, .string x.2.2.2.1, .bool x.2.2.2.2], .pointer (some ⟨B, 0, none⟩)] w fun e w' => e = .returned (.bool (decide ((x.1, x.2.1) = d))) ∧ Frm No w w' := by
  have d0 : w.cell? ⟨B, 0, none⟩ = some (.int .i64 d.1) := obj_cell hB 0
  have d1 : w.cell? ⟨B, 1, none⟩ = some (.int .i64 d.2) := obj_cell hB 1
  have hlt := lt_of_block hB
  go_enter Tryz.func147, Tryz.ntmps147
  go_wp2
  all_goals go_ret
  all_goals refine ⟨congrArg (fun b => Ending.returned (Value.bool b)) ?_, (Frm.refl No w).al _⟩
  · exact dec_t (Prod.ext ‹_› ‹_›)
  · exact dec_f fun e => ‹¬ x.2.1 = d.2› (congrArg Prod.snd e)
  · exact dec_f fun e => ‹¬ x.1 = d.1› (congrArg Prod.fst e)
/-- A cell's block. -/
def cellCells (c : CellV) (ve vl vs : Value) : Array Value := #[.int .i64 c.kind, .bool c.set, .int .i64 c.st.1, .int .i64 c.st.2, .string c.value, .int .i64 c.num.1, .int .i64 c.num.2, ve, vl, vs]
/-- Where the element of a dot stands; -1: there is none. -/
def findEl (l : List El) (d : Dt) : Int := idxFL l (fun e => decide ((e.1, e.2.1) = d))
set_option maxRecDepth 100000 in
theorem find_ok {w : World} {b : Nat} {l : List El} {cs : Array Value} {vl : Value} (hB : w.heap[b]? = some (.cells cs 75 (0, 0))) (h8 : cs[8]? = some vl) (hl : RdS w eEl vl l) (d : Dt) :
    Calls Tryz.prog 108 #[.pointer (some ⟨b, 0, none⟩), .agg #[.int .i64 d.1, .int .i64 d.2]] w fun e w' => e = .returned (.int .i64 (findEl l d)) ∧ Frm No w w' := by
  obtain ⟨al, cl, rfl⟩ := hl.sh
  have q8 : w.cell? ⟨b, 8, none⟩ = some (.slice al l.length cl) := by rw [obj_cell hB, h8]
  have nb := lt_of_block hB
  have HL := Lib.hid hl
  clear hB h8 hl
  obtain ⟨u, hu⟩ : ∃ u, Hid (u = findEl l d) := ⟨_, Lib.hid rfl⟩
  rw [← hu.out]
  go_enter Tryz.func108, Tryz.ntmps108
  go_wp2_with (fail)
  have D1 := heap_alloc_new w (.cells #[.int .i64 d.1, .int .i64 d.2] 83 (0, 0))
  have p1 : PredOkL (w.alloc (.cells #[.int .i64 d.1, .int .i64 d.2] 83 (0, 0))) 147 #[.pointer (some ⟨w.heap.size, 0, none⟩)] (fun e => decide ((e.1, e.2.1) = d)) := fun W x f => find1_ok (f.obj D1 id) x
  have hc := indexFuncL_ok (HL.out.no ((Frm.refl No w).al _)) p1 (enters_of Tryz.func147 (by kernel_rfl) rfl)
  refine hc.mono ?_
  rintro e w1 ⟨rfl, f1⟩
  clear hc p1 D1
  have hq : Hid (u = idxFL l (fun e => decide ((e.1, e.2.1) = d))) := hu
  go_wp2_with (fail)
  go_ret
  exact ⟨congrArg (fun b => Ending.returned (Value.int .i64 b)) hq.out.symm, ((Frm.refl No w).al _).trans f1⟩
/-- An element's stamp. -/
def stOf (x : El) : Dt := (x.2.2.1, x.1)
set_option maxRecDepth 100000 in
theorem stamp_ok {w : World} {b off : Nat} {x : El} (h0 : w.cell? ⟨b, off, none⟩ = some (.int .i64 x.1)) (h2 : w.cell? ⟨b, off + 2, none⟩ = some (.int .i64 x.2.2.1)) :
    Calls Tryz.prog 149 #[.pointer (some ⟨b, off, none⟩)] w fun e w' => e = .returned (.agg #[.int .i64 (stOf x).1, .int .i64 (stOf x).2]) ∧ Frm No w w' := by
  have nb := World.block_lt_of_cell? _ _ h0
  simp only at nb
  unfold stOf
  go_enter Tryz.func149, Tryz.ntmps149
  go_wp2
  refine wp_region_plan [([0, 1, 2, 3, 4, 5, 6, 7, 8, 9, 10], [])] 13 (by kernel_rfl) (by kernel_rfl) (by simp) ?_
  intro N hN
  simp only [wpSegs, List.map_cons, List.map_nil, List.getD_cons_zero, List.getD_cons_succ]
  go_wp2_with (fail)
  refine bodyPost_ret (v := .agg #[.int .i64 x.2.2.1, .int .i64 x.1]) (by simp [results, Tryz.results149, go_sem, *]) rfl ?_
  exact ⟨rfl, ((Frm.refl No w).al _).dr 1⟩
end Go.Proofs.YtgpdpalhkkjmiaaGreatDoor

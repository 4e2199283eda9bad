/- Merged: CellM1 CellM2. -/
import Derived.Test.YtofikfkgiblblaaGreatDoorQ29
import Derived.Test.YtofikfkgiblblaaGreatDoorQ30
/- Layer 12: may a last value be; is all zero but what a cell's kind names; kinds; new cells; is a cell stable. -/
namespace Go.Proofs.YtofikfkgiblblaaGreatDoor
set_option linter.unusedVariables false
set_option linter.unusedSimpArgs false
set_option linter.unusedVariables false
set_option linter.unusedSimpArgs false
open Go.RowKit Go.Lib Go.Tt Go.Shelf
/-- A cell's texts are no longer than a text may be. -/
structure CellZ (c : CellV) : Prop where
  v : c.value.size ≤ 2 ^ 63 - 1
  e : ∀ x ∈ c.ents, x.2.2.size ≤ 2 ^ 63 - 1
  l : ∀ x ∈ c.elems, x.2.2.2.1.size ≤ 2 ^ 63 - 1
def unsetC (c : CellV) : Prop := c.set = false ∧ c.st.1 = 0 ∧ c.st.2 = 0 ∧ c.value.size = 0
instance (c : CellV) : Decidable (unsetC c) := by unfold unsetC; infer_instance
/-- May the last value be? -/
def setMay (c : CellV) (n : Int) : Bool := if c.set = false then decide (c.st.1 = 0 ∧ c.st.2 = 0 ∧ c.value.size = 0) else decide ((1 ≤ c.st.1 ∧ c.st.1 ≤ 16777215) ∧ 0 ≤ c.st.2 ∧ c.st.2 < n ∧ c.value.size ≤ 256)
theorem cellBlk {w : World} {b : Nat} {c : CellV} {ve vl vs : Value} (h : w.heap[b]? = some (.cells (cellCells c ve vl vs) 30 (0, 0))) :
    w.cell? ⟨b, 0, none⟩ = some (.int .i64 c.kind) ∧ w.cell? ⟨b, 1, none⟩ = some (.bool c.set) ∧ w.cell? ⟨b, 2, none⟩ = some (.int .i64 c.st.1) ∧ w.cell? ⟨b, 3, none⟩ = some (.int .i64 c.st.2) ∧ w.cell? ⟨b, 4, none⟩ = some (.string c.value) ∧ w.cell? ⟨b, 5, none⟩ = some (.int .i64 c.num.1) ∧ w.cell? ⟨b, 6, none⟩ = some (.int .i64 c.num.2) ∧ w.cell? ⟨b, 7, none⟩ = some ve ∧ w.cell? ⟨b, 8, none⟩ = some vl ∧ w.cell? ⟨b, 9, none⟩ = some vs := obj10 h
set_option maxHeartbeats 1000000 in
set_option maxRecDepth 100000 in
theorem cellSet_ok {w : World} {b : Nat} {c : CellV} {ve vl vs : Value} (hB : w.heap[b]? = some (.cells (cellCells c ve vl vs) 30 (0, 0))) (hz : c.value.size ≤ 2 ^ 63 - 1) (n : Int) :
    Calls Tryz.prog 50 #[.pointer (some ⟨b, 0, none⟩), .int .i64 n] w fun e w' => e = .returned (.bool (setMay c n)) ∧ w = w' := by
  obtain ⟨B, hBq⟩ : ∃ B : Bool, Hid (B = setMay c n) := ⟨_, Lib.hid rfl⟩
  rw [← hBq.out]
  obtain ⟨q0, q1, q2, q3, q4, -, -, -, -, -⟩ := cellBlk hB
  have nb := lt_of_block hB
  clear hB q0
  obtain ⟨S, hS⟩ : ∃ S, Hid (S = c.set) := ⟨_, Lib.hid rfl⟩
  rw [← hS.out] at q1
  cases S with
  | false =>
    have hx : Hid (B = decide (c.st.1 = 0 ∧ c.st.2 = 0 ∧ c.value.size = 0)) := Lib.hid (by rw [hBq.out]; exact if_pos hS.out.symm)
    by_cases hv : c.value.size = 0
    · have hv' := ba_nil hv
      rw [hv'] at q4
      have HV := Lib.hid hv
      clear hv hv'
      go_enter Tryz.func50, Tryz.ntmps50
      go_wp2_with (fail)
      all_goals go_ret
      all_goals refine ⟨congrArg (fun b => Ending.returned (Value.bool b)) ?_, rfl⟩
      all_goals rw [hx.out]
      all_goals have hv := HV.out
      all_goals first | exact dec_f (by omega) | exact dec_t (by omega) | exact dec_d (by omega)
    · have hv' := ba_pos hv
      have HV := Lib.hid hv
      clear hv
      go_enter Tryz.func50, Tryz.ntmps50
      go_wp2_with (fail)
      all_goals go_ret
      all_goals refine ⟨congrArg (fun b => Ending.returned (Value.bool b)) ?_, rfl⟩
      all_goals rw [hx.out]
      all_goals have hv := HV.out
      all_goals first | exact dec_f (by omega) | exact dec_t (by omega) | exact dec_d (by omega)
  | true =>
    have hx : Hid (B = decide ((1 ≤ c.st.1 ∧ c.st.1 ≤ 16777215) ∧ 0 ≤ c.st.2 ∧ c.st.2 < n ∧ c.value.size ≤ 256)) := Lib.hid (by rw [hBq.out]; exact if_neg (by rw [← hS.out]; decide))
    have HT := Lib.hid (fun W => time_ok c.st.1 W)
    have HL := Lib.hid (fun W => lwwValue_ok c.value W hz)
    rcases ht : timeMay c.st.1 with _ | _
    · have ht' := of_decide_eq_false ht
      rw [ht] at HT
      have HN := Lib.hid ht'
      clear ht ht'
      go_enter Tryz.func50, Tryz.ntmps50
      go_wp2_with (fail)
      refine (HT.out _).mono ?_
      rintro e w' ⟨rfl, rfl⟩
      go_wp2_with (fail)
      go_ret
      exact ⟨congrArg (fun b => Ending.returned (Value.bool b)) (by rw [hx.out]; exact dec_f fun e => HN.out e.1), rfl⟩
    · have ht' := of_decide_eq_true ht
      rw [ht] at HT
      have HN := Lib.hid ht'
      clear ht ht'
      go_enter Tryz.func50, Tryz.ntmps50
      go_wp2_with (fail)
      refine (HT.out _).mono ?_
      rintro e w' ⟨rfl, rfl⟩
      go_wp2_with (go_at_call 94; refine (HL.out _).mono ?_; rintro e w' ⟨rfl, rfl⟩)
      all_goals go_ret
      all_goals refine ⟨congrArg (fun b => Ending.returned (Value.bool b)) ?_, rfl⟩
      all_goals rw [hx.out]
      all_goals have hv := HN.out
      all_goals first | exact dec_f (by omega) | exact dec_t (by omega) | exact dec_d (by omega)
/-- Is all zero but what a cell's kind names? -/
def bareC (c : CellV) : Bool := decide ((c.kind = 0 ∨ unsetC c) ∧ (c.kind = 1 ∨ c.num.1 = 0 ∧ c.num.2 = 0) ∧ (c.kind = 2 ∨ c.ents.length = 0) ∧ (c.kind = 3 ∨ c.elems.length = 0))
set_option maxHeartbeats 4000000 in
set_option maxRecDepth 100000 in
theorem cellBare_ok {w : World} {b : Nat} {c : CellV} {ve vl vs : Value} (hB : w.heap[b]? = some (.cells (cellCells c ve vl vs) 30 (0, 0))) (hR : CellR w c ve vl vs) :
    Calls Tryz.prog 49 #[.pointer (some ⟨b, 0, none⟩)] w fun e w' => e = .returned (.bool (bareC c)) ∧ w = w' := by
  obtain ⟨ae, ce, rfl⟩ := hR.e.sh
  obtain ⟨al, cl, rfl⟩ := hR.l.sh
  obtain ⟨B, hBq⟩ : ∃ B : Bool, Hid (B = bareC c) := ⟨_, Lib.hid rfl⟩
  rw [← hBq.out]
  obtain ⟨q0, q1, q2, q3, q4, q5, q6, q7, q8, -⟩ := cellBlk hB
  have nb := lt_of_block hB
  clear hB hR
  obtain ⟨k, hk⟩ : ∃ k, Hid (k = c.kind) := ⟨_, Lib.hid rfl⟩
  obtain ⟨ne, hne⟩ : ∃ k, Hid (k = c.ents.length) := ⟨_, Lib.hid rfl⟩
  obtain ⟨nl, hnl⟩ : ∃ k, Hid (k = c.elems.length) := ⟨_, Lib.hid rfl⟩
  obtain ⟨S, hS⟩ : ∃ S, Hid (S = c.set) := ⟨_, Lib.hid rfl⟩
  rw [← hk.out] at q0
  rw [← hS.out] at q1
  rw [← hne.out] at q7
  rw [← hnl.out] at q8
  have hx : Hid (B = decide ((k = 0 ∨ S = false ∧ c.st.1 = 0 ∧ c.st.2 = 0 ∧ c.value.size = 0) ∧ (k = 1 ∨ c.num.1 = 0 ∧ c.num.2 = 0) ∧ (k = 2 ∨ ne = 0) ∧ (k = 3 ∨ nl = 0))) := Lib.hid (by
    rw [hBq.out, hk.out, hS.out, hne.out, hnl.out]; rfl)
  have hcs : k = 0 ∨ k = 1 ∨ k = 2 ∨ k = 3 ∨ (¬ k = 0 ∧ ¬ k = 1 ∧ ¬ k = 2 ∧ ¬ k = 3) := by omega
  have hvs : (c.value = ⟨#[]⟩ ∧ Hid (c.value.size = 0)) ∨ (c.value.toList.isEmpty = false ∧ Hid (¬ c.value.size = 0)) := by
    by_cases hv : c.value.size = 0
    · exact .inl ⟨ba_nil hv, Lib.hid hv⟩
    · exact .inr ⟨ba_pos hv, Lib.hid hv⟩
  cases S with
  | true =>
    have hx' : Hid (B = decide (k = 0 ∧ (k = 1 ∨ c.num.1 = 0 ∧ c.num.2 = 0) ∧ (k = 2 ∨ ne = 0) ∧ (k = 3 ∨ nl = 0))) := Lib.hid (by rw [hx.out]; simp)
    clear hvs hx
    rcases hcs with rfl | rfl | rfl | rfl | ⟨k0, k1, k2, k3⟩
    all_goals
      go_enter Tryz.func49, Tryz.ntmps49
      go_wp2_with (fail)
      all_goals go_ret
      all_goals refine ⟨congrArg (fun b => Ending.returned (Value.bool b)) ?_, rfl⟩
      all_goals rw [hx'.out]
      all_goals first | exact dec_f (by omega) | exact dec_t (by omega) | exact dec_d (by omega) | (rw [Bool.eq_iff_iff]; simp only [Bool.or_eq_true, Bool.and_eq_true, beq_iff_eq, decide_eq_true_iff]; omega) | (simp only [true_or, or_true, true_and, and_true]; first | exact dec_f (by omega) | exact dec_t (by omega) | exact dec_d (by omega) | (rw [Bool.eq_iff_iff, beq_iff_eq, decide_eq_true_iff]; omega))
  | false =>
    have hx' : Hid (B = decide ((k = 0 ∨ c.st.1 = 0 ∧ c.st.2 = 0 ∧ c.value.size = 0) ∧ (k = 1 ∨ c.num.1 = 0 ∧ c.num.2 = 0) ∧ (k = 2 ∨ ne = 0) ∧ (k = 3 ∨ nl = 0))) := Lib.hid (by rw [hx.out]; simp)
    clear hx
    rcases hvs with ⟨hv, HV⟩ | ⟨hv, HV⟩
    · rw [hv] at q4
      clear hv
      rcases hcs with rfl | rfl | rfl | rfl | ⟨k0, k1, k2, k3⟩
      all_goals
        go_enter Tryz.func49, Tryz.ntmps49
        go_wp2_with (fail)
        all_goals go_ret
        all_goals refine ⟨congrArg (fun b => Ending.returned (Value.bool b)) ?_, rfl⟩
        all_goals rw [hx'.out]
        all_goals have hv := HV.out
        all_goals first | exact dec_f (by omega) | exact dec_t (by omega) | exact dec_d (by omega) | (rw [Bool.eq_iff_iff]; simp only [Bool.or_eq_true, Bool.and_eq_true, beq_iff_eq, decide_eq_true_iff]; omega) | (simp only [true_or, or_true, true_and, and_true]; first | exact dec_f (by omega) | exact dec_t (by omega) | exact dec_d (by omega) | (rw [Bool.eq_iff_iff, beq_iff_eq, decide_eq_true_iff]; omega))
    · rcases hcs with rfl | rfl | rfl | rfl | ⟨k0, k1, k2, k3⟩
      all_goals
        go_enter Tryz.func49, Tryz.ntmps49
        go_wp2_with (fail)
        all_goals go_ret
        all_goals refine ⟨congrArg (fun b => Ending.returned (Value.bool b)) ?_, rfl⟩
        all_goals rw [hx'.out]
        all_goals have hv := HV.out
        all_goals first | exact dec_f (by omega) | exact dec_t (by omega) | exact dec_d (by omega) | (rw [Bool.eq_iff_iff]; simp only [Bool.or_eq_true, Bool.and_eq_true, beq_iff_eq, decide_eq_true_iff]; omega) | (simp only [true_or, or_true, true_and, and_true]; first | exact dec_f (by omega) | exact dec_t (by omega) | exact dec_d (by omega) | (rw [Bool.eq_iff_iff, beq_iff_eq, decide_eq_true_iff]; omega))
end Go.Proofs.YtofikfkgiblblaaGreatDoor

/- Layer 12: may a set's entries be? -/
namespace Go.Proofs.YtofikfkgiblblaaGreatDoor
set_option linter.unusedVariables false
set_option linter.unusedSimpArgs false
open Go.RowKit Go.Lib Go.Tt Go.Shelf
def eDot (x : En) : Dt := (x.1, x.2.1)
abbrev En0 : En := (0, 0, ⟨#[]⟩)
/-- The first k entries may be, in their row. -/
def entsRow (c : CellV) (k : Nat) : Prop := ∀ j, j < k → vHas c.seen (eDot (c.ents.getD j En0)) = true ∧ (c.ents.getD j En0).2.2.size ≤ 256 ∧ (0 < j → dotLess (eDot (c.ents.getD (j - 1) En0)) (eDot (c.ents.getD j En0)) = true)
instance (c : CellV) (k : Nat) : Decidable (entsRow c k) := by unfold entsRow; infer_instance
def entsMay (c : CellV) : Bool := decide (entsRow c c.ents.length)
theorem entsRow_step {c : CellV} {k : Nat} (h : entsRow c k) (h1 : vHas c.seen (eDot (c.ents.getD k En0)) = true) (h2 : (c.ents.getD k En0).2.2.size ≤ 256) (h3 : 0 < k → dotLess (eDot (c.ents.getD (k - 1) En0)) (eDot (c.ents.getD k En0)) = true) : entsRow c (k + 1) := fun j hj => by
  rcases Nat.lt_or_ge j k with h4 | h4
  · exact h j h4
  · obtain rfl : j = k := by omega
    exact ⟨h1, h2, h3⟩
set_option maxHeartbeats 4000000 in
set_option maxRecDepth 100000 in
theorem cellEntries_ok {w : World} {b0 : Nat} {c : CellV} {ve vl vs : Value} (hB : w.heap[b0]? = some (.cells (cellCells c ve vl vs) 30 (0, 0))) (hR : CellR w c ve vl vs) (hz : ∀ x ∈ c.ents, x.2.2.size ≤ 2 ^ 63 - 1) :
    Calls Tryz.prog 51 #[.pointer (some ⟨b0, 0, none⟩)] w fun e w' => e = .returned (.bool (entsMay c)) ∧ Frm No w w' := by
  obtain ⟨ae, ce, rfl⟩ := hR.e.sh
  obtain ⟨at_, cs, rfl⟩ := hR.s.sh
  have hlm : c.ents.length ≤ 9223372036854775807 := by have h := hR.e.facts; have := h.2.1; have := h.2.2.1; unfold maxLen at *; omega
  obtain ⟨B, hBq⟩ : ∃ B : Bool, Hid (B = entsMay c) := ⟨_, Lib.hid rfl⟩
  rw [← hBq.out]
  have nb := lt_of_block hB
  have q7 : w.cell? ⟨b0, 7, none⟩ = some (.slice ae c.ents.length ce) := (cellBlk hB).2.2.2.2.2.2.2.1
  have HB := Lib.hid hB
  have HE := Lib.hid hR.e
  have HS := Lib.hid hR.s
  have HZ := Lib.hid hz
  clear hB hR hz
  obtain ⟨n, hn⟩ : ∃ n, Hid (n = c.ents.length) := ⟨_, Lib.hid rfl⟩
  rw [← hn.out] at q7 hlm HE
  have HQ := Lib.hid q7
  go_enter Tryz.func51, Tryz.ntmps51
  go_wp2_with (fail)
  clear q7
  go_loopg [10] (n + 1) (fun g iv wr => ∃ i : Nat, iv = .int .i64 i ∧ Frm No w wr ∧ i ≤ n ∧ g = n - i + 1 ∧ entsRow c i)
  case atStart => exact ⟨0, rfl, Frm.refl _ _, Nat.zero_le _, by omega, fun j hj => by omega⟩
  case round =>
    obtain ⟨i, rfl, F, hi, hg, hp⟩ := hrel
    have hG := Lib.hid hg
    have hP := Lib.hid hp
    clear hg hp
    by_cases hlt : i < n
    · have l1 : i < c.ents.length := by rw [← hn.out]; exact hlt
      obtain ⟨b, off, rfl, hb, hc⟩ := (HE.out.no F).at l1
      have e0 : wr.cell? ⟨b, off + i * 3, none⟩ = some (.int .i64 c.ents[i].1) := hc 0 _ rfl
      have e1 : wr.cell? ⟨b, off + i * 3 + 1, none⟩ = some (.int .i64 c.ents[i].2.1) := hc 1 _ rfl
      have e2 : wr.cell? ⟨b, off + i * 3 + 2, none⟩ = some (.string c.ents[i].2.2) := hc 2 _ rfl
      clear hc
      have q9 : wr.cell? ⟨b0, 9, none⟩ = some (.slice at_ c.seen.length cs) := (cellBlk (F.obj HB.out id)).2.2.2.2.2.2.2.2.2
      have q7 : wr.cell? ⟨b0, 7, none⟩ = some (.slice (some ⟨b, off, none⟩) n ce) := (F.cell (p := ⟨b0, 7, none⟩) nb id).trans HQ.out
      have nb' : b0 < wr.heap.size := Nat.lt_of_lt_of_le nb F.size
      have HC := Lib.hid (fun W (f : Frm No wr W) => has_ok (HS.out.no (F.trans f)) (eDot c.ents[i]))
      have HV2 := Lib.hid (fun W => lwwValue_ok c.ents[i].2.2 W (HZ.out _ (List.getElem_mem l1)))
      have HX : Hid (c.ents.getD i En0 = c.ents[i]) := Lib.hid (gd l1)
      obtain ⟨x, hx⟩ : ∃ x, Hid (x = c.ents[i]) := ⟨_, Lib.hid rfl⟩
      rw [← hx.out] at e0 e1 e2 HC HV2 HX
      rcases hv : vHas c.seen (eDot x) with _ | _
      · have HV : Hid (B = false) := Lib.hid (by
          rw [hBq.out]
          refine decide_eq_false fun h => ?_
          have := (h i l1).1
          rw [HX.out, hv] at this
          cases this)
        rw [hv] at HC
        clear hv
        unfold eDot at HC
        go_wp2_with (fail)
        refine wp_region_plan [([0, 1, 2, 3, 4, 5, 6, 7, 8, 9, 10, 11, 12, 13, 14, 15, 16, 17, 18, 19, 20, 21, 22, 27, 28, 23], [28, 21]), ([24, 25, 26, 29, 30, 31, 32], [])] 49 (by kernel_rfl) (by kernel_rfl) (by simp) ?_
        intro N hN
        simp only [wpSegs, List.map_cons, List.map_nil, List.getD_cons_zero, List.getD_cons_succ]
        go_wp2_with (fail)
        refine (HC.out _ (((Frm.refl No wr).al _).dr _)).mono ?_
        rintro e w1 ⟨rfl, f1⟩
        have C1 : w1.heap[wr.heap.size]? = some (.cells #[.int .i64 x.1, .int .i64 x.2.1, .string x.2.2] 62 (0, 0)) := f1.obj (show ((wr.alloc (.cells #[.int .i64 x.1, .int .i64 x.2.1, .string x.2.2] 62 (0, 0))).drewN 1).heap[wr.heap.size]? = _ from heap_alloc_new wr _) id
        have F1 : Frm No wr w1 := (((Frm.refl No wr).al _).dr _).trans f1
        have c0 : w1.cell? ⟨wr.heap.size, 0, none⟩ = some (.int .i64 x.1) := obj_cell C1 0
        have c1 : w1.cell? ⟨wr.heap.size, 1, none⟩ = some (.int .i64 x.2.1) := obj_cell C1 1
        have c2 : w1.cell? ⟨wr.heap.size, 2, none⟩ = some (.string x.2.2) := obj_cell C1 2
        have nc := lt_of_block C1
        clear f1 HC
        go_wp2_with (fail)
        refine ⟨again_cons (again_off rfl rfl) (again_cons (again_off rfl rfl) again_nil), ?_⟩
        go_wp2_with (fail)
        go_ret
        exact ⟨congrArg (fun b => Ending.returned (Value.bool b)) HV.out.symm, F.trans F1⟩
      have HV := Lib.hid hv
      rw [hv] at HC
      clear hv
      unfold eDot at HC
      rcases hs : decide (x.2.2.size ≤ 256) with _ | _
      · have HVs : Hid (B = false) := Lib.hid (by
          rw [hBq.out]
          refine decide_eq_false fun h => ?_
          have := (h i l1).2.1
          rw [HX.out] at this
          exact of_decide_eq_false hs this)
        rw [hs] at HV2
        clear hs
        go_wp2_with (fail)
        refine wp_region_plan [([0, 1, 2, 3, 4, 5, 6, 7, 8, 9, 10, 11, 12, 13, 14, 15, 16, 17, 18, 19, 20, 21, 22, 27, 28, 23], [28, 21]), ([24, 25, 26, 29, 30, 31, 32], [])] 49 (by kernel_rfl) (by kernel_rfl) (by simp) ?_
        intro N hN
        simp only [wpSegs, List.map_cons, List.map_nil, List.getD_cons_zero, List.getD_cons_succ]
        go_wp2_with (fail)
        refine (HC.out _ (((Frm.refl No wr).al _).dr _)).mono ?_
        rintro e w1 ⟨rfl, f1⟩
        have C1 : w1.heap[wr.heap.size]? = some (.cells #[.int .i64 x.1, .int .i64 x.2.1, .string x.2.2] 62 (0, 0)) := f1.obj (show ((wr.alloc (.cells #[.int .i64 x.1, .int .i64 x.2.1, .string x.2.2] 62 (0, 0))).drewN 1).heap[wr.heap.size]? = _ from heap_alloc_new wr _) id
        have F1 : Frm No wr w1 := (((Frm.refl No wr).al _).dr _).trans f1
        have c0 : w1.cell? ⟨wr.heap.size, 0, none⟩ = some (.int .i64 x.1) := obj_cell C1 0
        have c1 : w1.cell? ⟨wr.heap.size, 1, none⟩ = some (.int .i64 x.2.1) := obj_cell C1 1
        have c2 : w1.cell? ⟨wr.heap.size, 2, none⟩ = some (.string x.2.2) := obj_cell C1 2
        have nc := lt_of_block C1
        clear f1 HC
        go_wp2_with (fail)
        refine (HV2.out _).mono ?_
        rintro e w' ⟨rfl, rfl⟩
        go_wp2_with (fail)
        refine ⟨again_cons (again_off rfl rfl) (again_cons (again_off rfl rfl) again_nil), ?_⟩
        go_wp2_with (fail)
        go_ret
        exact ⟨congrArg (fun b => Ending.returned (Value.bool b)) HVs.out.symm, F.trans F1⟩
      have HSZ := Lib.hid (of_decide_eq_true hs)
      rw [hs] at HV2
      clear hs
      by_cases hi0 : i = 0
      · subst hi0
        simp only [Nat.zero_mul, Nat.add_zero] at e0 e1 e2
        go_wp2_with (fail)
        refine wp_region_plan [([0, 1, 2, 3, 4, 5, 6, 7, 8, 9, 10, 11, 12, 13, 14, 15, 16, 17, 18, 19, 20, 21, 22, 27, 28, 23], [28, 21]), ([24, 25, 26, 29, 30, 31, 32], [])] 49 (by kernel_rfl) (by kernel_rfl) (by simp) ?_
        intro N hN
        simp only [wpSegs, List.map_cons, List.map_nil, List.getD_cons_zero, List.getD_cons_succ]
        go_wp2_with (fail)
        refine (HC.out _ (((Frm.refl No wr).al _).dr _)).mono ?_
        rintro e w1 ⟨rfl, f1⟩
        have C1 : w1.heap[wr.heap.size]? = some (.cells #[.int .i64 x.1, .int .i64 x.2.1, .string x.2.2] 62 (0, 0)) := f1.obj (show ((wr.alloc (.cells #[.int .i64 x.1, .int .i64 x.2.1, .string x.2.2] 62 (0, 0))).drewN 1).heap[wr.heap.size]? = _ from heap_alloc_new wr _) id
        have F1 : Frm No wr w1 := (((Frm.refl No wr).al _).dr _).trans f1
        have c0 : w1.cell? ⟨wr.heap.size, 0, none⟩ = some (.int .i64 x.1) := obj_cell C1 0
        have c1 : w1.cell? ⟨wr.heap.size, 1, none⟩ = some (.int .i64 x.2.1) := obj_cell C1 1
        have c2 : w1.cell? ⟨wr.heap.size, 2, none⟩ = some (.string x.2.2) := obj_cell C1 2
        have nc := lt_of_block C1
        clear f1 HC
        go_wp2_with (fail)
        refine (HV2.out _).mono ?_
        rintro e w' ⟨rfl, rfl⟩
        go_wp2_with (fail)
        refine ⟨again_cons (again_off rfl rfl) (again_cons (again_off rfl rfl) again_nil), ?_⟩
        go_wp2_with (fail)
        go_roundg (n - (0 + 1) + 1)
        case measure => have := hG.out; omega
        case rel => exact ⟨1, by go_num, F.trans F1, by omega, rfl, entsRow_step hP.out (by rw [HX.out]; exact HV.out) (by rw [HX.out]; exact HSZ.out) fun h => absurd h (by omega)⟩
      · obtain ⟨k, hk⟩ : ∃ k, i = k + 1 := ⟨i - 1, by omega⟩
        subst hk
        have lk : k < c.ents.length := by omega
        obtain ⟨b', off', heq, -, hc⟩ := (HE.out.no F).at lk
        simp only [Option.some.injEq, Addr.mk.injEq, and_true] at heq
        obtain ⟨rfl, rfl⟩ := heq
        have p0 : wr.cell? ⟨b, off + k * 3, none⟩ = some (.int .i64 c.ents[k].1) := hc 0 _ rfl
        have p1 : wr.cell? ⟨b, off + k * 3 + 1, none⟩ = some (.int .i64 c.ents[k].2.1) := hc 1 _ rfl
        clear hc
        have HY : Hid (c.ents.getD k En0 = c.ents[k]) := Lib.hid (gd lk)
        obtain ⟨y, hy⟩ : ∃ y, Hid (y = c.ents[k]) := ⟨_, Lib.hid rfl⟩
        rw [← hy.out] at p0 p1 HY
        have HD := Lib.hid (fun W => dotCompare_ok (eDot y) (eDot x) W)
        have HL := Lib.hid (cmp_less (eDot y) (eDot x))
        unfold eDot at HD
        obtain ⟨u, hu⟩ : ∃ u, Hid (u = orI (cmpI y.1 x.1) (cmpI y.2.1 x.2.1)) := ⟨_, Lib.hid rfl⟩
        have HL2 : Hid ((u < 0) ↔ dotLess (eDot y) (eDot x) = true) := Lib.hid (by rw [hu.out]; exact HL.out)
        dsimp only at HD
        rw [← hu.out] at HD
        clear HL
        have e9 : ((k + 1 : Nat) : Int) - 1 = (k : Int) := by omega
        go_wp2_with (fail)
        refine wp_region_plan [([0, 1, 2, 3, 4, 5, 6, 7, 8, 9, 10, 11, 12, 13, 14, 15, 16, 17, 18, 19, 20, 21, 22, 27, 28, 23], [28, 21]), ([24, 25, 26, 29, 30, 31, 32], [])] 49 (by kernel_rfl) (by kernel_rfl) (by simp) ?_
        intro N hN
        simp only [wpSegs, List.map_cons, List.map_nil, List.getD_cons_zero, List.getD_cons_succ]
        go_wp2_with (fail)
        refine (HC.out _ (((Frm.refl No wr).al _).dr _)).mono ?_
        rintro e w1 ⟨rfl, f1⟩
        have C1 : w1.heap[wr.heap.size]? = some (.cells #[.int .i64 x.1, .int .i64 x.2.1, .string x.2.2] 62 (0, 0)) := f1.obj (show ((wr.alloc (.cells #[.int .i64 x.1, .int .i64 x.2.1, .string x.2.2] 62 (0, 0))).drewN 1).heap[wr.heap.size]? = _ from heap_alloc_new wr _) id
        have F1 : Frm No wr w1 := (((Frm.refl No wr).al _).dr _).trans f1
        have c0 : w1.cell? ⟨wr.heap.size, 0, none⟩ = some (.int .i64 x.1) := obj_cell C1 0
        have c1 : w1.cell? ⟨wr.heap.size, 1, none⟩ = some (.int .i64 x.2.1) := obj_cell C1 1
        have c2 : w1.cell? ⟨wr.heap.size, 2, none⟩ = some (.string x.2.2) := obj_cell C1 2
        have nc := lt_of_block C1
        clear f1 HC
        have p0' : w1.cell? ⟨b, off + k * 3, none⟩ = some (.int .i64 y.1) := (F1.cell (p := ⟨b, off + k * 3, none⟩) hb id).trans p0
        have p1' : w1.cell? ⟨b, off + k * 3 + 1, none⟩ = some (.int .i64 y.2.1) := (F1.cell (p := ⟨b, off + k * 3 + 1, none⟩) hb id).trans p1
        have q7' : w1.cell? ⟨b0, 7, none⟩ = some (.slice (some ⟨b, off, none⟩) n ce) := (F1.cell (p := ⟨b0, 7, none⟩) nb' id).trans q7
        have nb1 : b0 < w1.heap.size := Nat.lt_of_lt_of_le nb' F1.size
        go_wp2_with (fail)
        refine (HV2.out _).mono ?_
        rintro e w' ⟨rfl, rfl⟩
        go_wp2_with (fail)
        refine ⟨again_cons (again_of rfl rfl ?_) (again_cons (again_of rfl rfl ?_) again_nil), ?_⟩
        · go_simp
        · go_simp
        go_wp2_with (fail)
        refine (HD.out _).mono ?_
        rintro e w2 ⟨rfl, f2⟩
        have F2 := F1.trans f2
        rcases hdl : dotLess (eDot y) (eDot x) with _ | _
        · have HV' : Hid (B = false) := Lib.hid (by
            rw [hBq.out]
            refine decide_eq_false fun h => ?_
            have := (h (k + 1) l1).2.2 (Nat.succ_pos k)
            rw [HX.out, Nat.add_sub_cancel, HY.out, hdl] at this
            cases this)
          have hge : 0 ≤ u := by
            have := HL2.out
            rw [hdl] at this
            simp at this
            omega
          clear HL2 hdl
          go_wp2_with (fail)
          go_ret
          exact ⟨congrArg (fun b => Ending.returned (Value.bool b)) HV'.out.symm, F.trans F2⟩
        · have hge : ¬ 0 ≤ u := by
            have := HL2.out
            rw [hdl] at this
            simp at this
            omega
          have HDL := Lib.hid hdl
          clear HL2 hdl
          go_wp2_with (fail)
          go_roundg (n - (k + 1 + 1) + 1)
          case measure => have := hG.out; omega
          case rel => exact ⟨k + 1 + 1, by go_num, F.trans F2, by omega, rfl, entsRow_step hP.out (by rw [HX.out]; exact HV.out) (by rw [HX.out]; exact HSZ.out) fun h => by rw [HX.out, Nat.add_sub_cancel, HY.out]; exact HDL.out⟩
    · have hii : ¬ ((i : Int) < n) := by omega
      obtain rfl : i = n := by omega
      have hv : Hid (B = true) := Lib.hid (by
        rw [hBq.out]
        refine decide_eq_true ?_
        rw [← hn.out]
        exact hP.out)
      go_wp2_with (fail)
      go_ret
      exact ⟨congrArg (fun b => Ending.returned (Value.bool b)) hv.out.symm, F⟩
end Go.Proofs.YtofikfkgiblblaaGreatDoor

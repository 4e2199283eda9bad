/- Merged: RefMaya RefMayb RefMayc RefMayd RefMay. -/
import Derived.Test.YtofikfkgiblblaaGreatDoorZC2
set_option linter.unusedVariables false
set_option linter.unusedSimpArgs false
/- The reference: may a cell be? Way a. -/
namespace Go.Proofs.YtofikfkgiblblaaGreatDoor
set_option linter.unusedVariables false
set_option linter.unusedSimpArgs false
open Go.RowKit Go.Lib Go.Tt Go.Shelf
set_option maxHeartbeats 8000000 in
set_option maxRecDepth 100000 in
theorem refMay_a {w : World} {c : CellV} {ve vl vs : Value} (h : CellR w c ve vl vs) (n : Int) (hv : vecMay c.seen n = true) (hset : c.set = true) :
    Calls Tryz.prog 21 #[cval c ve vl vs, .int .i64 n] w fun e w' => e = .returned (.bool (cellMay c n)) ∧ Frm No w w' := by
  have HR := Lib.hid h
  obtain ⟨he, hl, hs⟩ := h
  obtain ⟨ae, ce, rfl⟩ := he.sh
  obtain ⟨al, cl, rfl⟩ := hl.sh
  obtain ⟨at_, cs, rfl⟩ := hs.sh
  have HV := Lib.hid hv
  have HVM := Lib.hid (fun W (f : Frm No w W) => refVecMay_ok (hs.no f) n)
  rw [hv] at HVM
  obtain ⟨R, hR⟩ : ∃ R, Hid (R = cellMay c n) := ⟨_, Lib.hid rfl⟩
  rw [← hR.out]
  obtain ⟨k, hk⟩ : ∃ k, Hid (k = c.kind) := ⟨_, Lib.hid rfl⟩
  obtain ⟨ne, hne⟩ : ∃ k, Hid (k = c.ents.length) := ⟨_, Lib.hid rfl⟩
  obtain ⟨nl, hnl⟩ : ∃ k, Hid (k = c.elems.length) := ⟨_, Lib.hid rfl⟩
  have hU : Hid (decide (unsetC c) = false) := Lib.hid (decide_eq_false fun e => by have e := e.1; rw [hset] at e; cases e)
  have hM : Hid (setMay c n = (stMay c.st n && decide (c.value.size ≤ 256))) := Lib.hid (by
    unfold setMay stMay
    rw [if_neg (by rw [hset]; decide), ← Bool.decide_and]
    exact decide_eq_decide.2 (by omega))
  have hcv : ∀ e l s, cval c e l s = .agg #[.int .i64 k, .bool true, .int .i64 c.st.1, .int .i64 c.st.2, .string c.value, .int .i64 c.num.1, .int .i64 c.num.2, e, l, s] := by intro e l s; unfold cval; rw [← hk.out]; rw [hset]
  rw [hcv, ← hne.out, ← hnl.out]
  rw [← hne.out, ← hnl.out] at HR
  have HCV := Lib.hid hcv
  have HP := Lib.hid (fun W => refPairMay_ok c.num W)
  have HS := Lib.hid (fun W => stampMay_ok c.st n W)
  have E2 := fun W => eq_pair c.num.1 c.num.2 0 0 W
  clear he hl hs hv hcv hset
  have hcs : k = 0 ∨ k = 1 ∨ k = 2 ∨ k = 3 ∨ (¬ k = 0 ∧ ¬ k = 1 ∧ ¬ k = 2 ∧ ¬ k = 3) := by omega
  rcases hcs with rfl | rfl | rfl | rfl | ⟨k0, k1, k2, k3⟩
  · by_cases hN : c.num.1 = 0 ∧ c.num.2 = 0
    · rw [decide_eq_true hN] at E2
      replace hN := Lib.hid hN
      by_cases hS : ne = 0
      · subst hS
        have hS : Hid (c.ents.length = 0) := Lib.hid hne.out.symm
        by_cases hE : nl = 0
        · subst hE
          have hE : Hid (c.elems.length = 0) := Lib.hid hnl.out.symm
          rcases hsm : stMay c.st n with _ | _
          · rw [hsm] at HS
            have HSM := Lib.hid hsm
            clear hsm
            have B0 := heap_alloc_new w (.cells #[.int .i64 0, .bool true, .int .i64 c.st.1, .int .i64 c.st.2, .string c.value, .int .i64 c.num.1, .int .i64 c.num.2, .slice ae 0 ce, .slice al 0 cl, .slice at_ c.seen.length cs] 30 (0, 0))
            have F0 : Frm No w (w.alloc (.cells #[.int .i64 0, .bool true, .int .i64 c.st.1, .int .i64 c.st.2, .string c.value, .int .i64 c.num.1, .int .i64 c.num.2, .slice ae 0 ce, .slice al 0 cl, .slice at_ c.seen.length cs] 30 (0, 0))) := (Frm.refl No w).al _
            obtain ⟨q0, q1, q2, q3, q4, q5, q6, q7, q8, q9⟩ := obj10 B0
            go_enter Tryz.func21, Tryz.ntmps21
            go_wp2_with (fail)
            refine (HVM.out _ F0).mono ?_
            rintro e w' ⟨rfl, rfl⟩
            go_wp2_with (fail)
            refine wp_still_drew (by kernel_rfl) (by kernel_rfl) ?_
            repeat still_step
            refine wpStill_nil ?_
            go_wp2_with (fail)
            refine (HS.out _).mono ?_
            rintro e w2 ⟨rfl, f2⟩
            go_wp2_with (fail)
            go_ret
            exact ⟨congrArg (fun b => Ending.returned (Value.bool b)) ((hR.out.trans ((may_eq HV.out).trans (by simp only [← hk.out, hM.out, HSM.out, decide_eq_true hN.out, decide_eq_true hS.out, decide_eq_true hE.out]; first | (simp; done) | (simp; have := hz.out; omega)))).symm), ((F0.trans (Frm.drew No _)).trans f2)⟩
          · rw [hsm] at HS
            have HSM := Lib.hid hsm
            clear hsm
            by_cases hz : c.value.size ≤ 256
            · have hz1 : (c.value.size : Int) ≤ 256 := by omega
              replace hz := Lib.hid hz
              have B0 := heap_alloc_new w (.cells #[.int .i64 0, .bool true, .int .i64 c.st.1, .int .i64 c.st.2, .string c.value, .int .i64 c.num.1, .int .i64 c.num.2, .slice ae 0 ce, .slice al 0 cl, .slice at_ c.seen.length cs] 30 (0, 0))
              have F0 : Frm No w (w.alloc (.cells #[.int .i64 0, .bool true, .int .i64 c.st.1, .int .i64 c.st.2, .string c.value, .int .i64 c.num.1, .int .i64 c.num.2, .slice ae 0 ce, .slice al 0 cl, .slice at_ c.seen.length cs] 30 (0, 0))) := (Frm.refl No w).al _
              obtain ⟨q0, q1, q2, q3, q4, q5, q6, q7, q8, q9⟩ := obj10 B0
              go_enter Tryz.func21, Tryz.ntmps21
              go_wp2_with (fail)
              refine (HVM.out _ F0).mono ?_
              rintro e w' ⟨rfl, rfl⟩
              go_wp2_with (fail)
              refine wp_still_drew (by kernel_rfl) (by kernel_rfl) ?_
              repeat still_step
              refine wpStill_nil ?_
              go_wp2_with (fail)
              refine (HS.out _).mono ?_
              rintro e w2 ⟨rfl, f2⟩
              have B2 := f2.obj ((Frm.drew No _).obj B0 id) id
              have n2 := lt_of_block B2
              clear q0 q1 q2 q3 q4 q5 q6 q7 q8 q9
              obtain ⟨q0, q1, q2, q3, q4, q5, q6, q7, q8, q9⟩ := obj10 B2
              go_wp2_with (fail)
              go_ret
              exact ⟨congrArg (fun b => Ending.returned (Value.bool b)) ((hR.out.trans ((may_eq HV.out).trans (by simp only [← hk.out, hM.out, HSM.out, decide_eq_true hz.out, decide_eq_true hN.out, decide_eq_true hS.out, decide_eq_true hE.out]; first | (simp; done) | (simp; have := hz.out; omega)))).symm), ((F0.trans (Frm.drew No _)).trans f2)⟩
            · have hz1 : ¬ (c.value.size : Int) ≤ 256 := by omega
              replace hz := Lib.hid hz
              have B0 := heap_alloc_new w (.cells #[.int .i64 0, .bool true, .int .i64 c.st.1, .int .i64 c.st.2, .string c.value, .int .i64 c.num.1, .int .i64 c.num.2, .slice ae 0 ce, .slice al 0 cl, .slice at_ c.seen.length cs] 30 (0, 0))
              have F0 : Frm No w (w.alloc (.cells #[.int .i64 0, .bool true, .int .i64 c.st.1, .int .i64 c.st.2, .string c.value, .int .i64 c.num.1, .int .i64 c.num.2, .slice ae 0 ce, .slice al 0 cl, .slice at_ c.seen.length cs] 30 (0, 0))) := (Frm.refl No w).al _
              obtain ⟨q0, q1, q2, q3, q4, q5, q6, q7, q8, q9⟩ := obj10 B0
              go_enter Tryz.func21, Tryz.ntmps21
              go_wp2_with (fail)
              refine (HVM.out _ F0).mono ?_
              rintro e w' ⟨rfl, rfl⟩
              go_wp2_with (fail)
              refine wp_still_drew (by kernel_rfl) (by kernel_rfl) ?_
              repeat still_step
              refine wpStill_nil ?_
              go_wp2_with (fail)
              refine (HS.out _).mono ?_
              rintro e w2 ⟨rfl, f2⟩
              have B2 := f2.obj ((Frm.drew No _).obj B0 id) id
              have n2 := lt_of_block B2
              clear q0 q1 q2 q3 q4 q5 q6 q7 q8 q9
              obtain ⟨q0, q1, q2, q3, q4, q5, q6, q7, q8, q9⟩ := obj10 B2
              go_wp2_with (fail)
              go_ret
              exact ⟨congrArg (fun b => Ending.returned (Value.bool b)) ((hR.out.trans ((may_eq HV.out).trans (by simp only [← hk.out, hM.out, HSM.out, decide_eq_false hz.out, decide_eq_true hN.out, decide_eq_true hS.out, decide_eq_true hE.out]; first | (simp; done) | (simp; have := hz.out; omega)))).symm), ((F0.trans (Frm.drew No _)).trans f2)⟩
        · have hE0 : ((nl : Int) == 0) = false := by simp; omega
          have hE1 : ¬ (nl : Int) = 0 := by omega
          replace hE : Hid (¬ c.elems.length = 0) := Lib.hid (by rw [← hnl.out]; exact hE)
          have B0 := heap_alloc_new w (.cells #[.int .i64 0, .bool true, .int .i64 c.st.1, .int .i64 c.st.2, .string c.value, .int .i64 c.num.1, .int .i64 c.num.2, .slice ae 0 ce, .slice al nl cl, .slice at_ c.seen.length cs] 30 (0, 0))
          have F0 : Frm No w (w.alloc (.cells #[.int .i64 0, .bool true, .int .i64 c.st.1, .int .i64 c.st.2, .string c.value, .int .i64 c.num.1, .int .i64 c.num.2, .slice ae 0 ce, .slice al nl cl, .slice at_ c.seen.length cs] 30 (0, 0))) := (Frm.refl No w).al _
          obtain ⟨q0, q1, q2, q3, q4, q5, q6, q7, q8, q9⟩ := obj10 B0
          go_enter Tryz.func21, Tryz.ntmps21
          go_wp2_with (fail)
          refine (HVM.out _ F0).mono ?_
          rintro e w' ⟨rfl, rfl⟩
          go_wp2_with (fail)
          refine wp_still_drew (by kernel_rfl) (by kernel_rfl) ?_
          repeat still_step
          refine wpStill_nil ?_
          go_wp2_with (fail)
          go_ret
          exact ⟨congrArg (fun b => Ending.returned (Value.bool b)) ((hR.out.trans ((may_eq HV.out).trans (by simp only [← hk.out, hU.out, hM.out, decide_eq_false hE.out]; first | (simp; done) | (simp; have := hz.out; omega)))).symm), (F0.trans (Frm.drew No _))⟩
      · have hS0 : ((ne : Int) == 0) = false := by simp; omega
        have hS1 : ¬ (ne : Int) = 0 := by omega
        replace hS : Hid (¬ c.ents.length = 0) := Lib.hid (by rw [← hne.out]; exact hS)
        have B0 := heap_alloc_new w (.cells #[.int .i64 0, .bool true, .int .i64 c.st.1, .int .i64 c.st.2, .string c.value, .int .i64 c.num.1, .int .i64 c.num.2, .slice ae ne ce, .slice al nl cl, .slice at_ c.seen.length cs] 30 (0, 0))
        have F0 : Frm No w (w.alloc (.cells #[.int .i64 0, .bool true, .int .i64 c.st.1, .int .i64 c.st.2, .string c.value, .int .i64 c.num.1, .int .i64 c.num.2, .slice ae ne ce, .slice al nl cl, .slice at_ c.seen.length cs] 30 (0, 0))) := (Frm.refl No w).al _
        obtain ⟨q0, q1, q2, q3, q4, q5, q6, q7, q8, q9⟩ := obj10 B0
        go_enter Tryz.func21, Tryz.ntmps21
        go_wp2_with (fail)
        refine (HVM.out _ F0).mono ?_
        rintro e w' ⟨rfl, rfl⟩
        go_wp2_with (fail)
        refine wp_still_drew (by kernel_rfl) (by kernel_rfl) ?_
        repeat still_step
        refine wpStill_nil ?_
        go_wp2_with (fail)
        go_ret
        exact ⟨congrArg (fun b => Ending.returned (Value.bool b)) ((hR.out.trans ((may_eq HV.out).trans (by simp only [← hk.out, hU.out, hM.out, decide_eq_false hS.out]; first | (simp; done) | (simp; have := hz.out; omega)))).symm), (F0.trans (Frm.drew No _))⟩
    · rw [decide_eq_false hN] at E2
      replace hN := Lib.hid hN
      have B0 := heap_alloc_new w (.cells #[.int .i64 0, .bool true, .int .i64 c.st.1, .int .i64 c.st.2, .string c.value, .int .i64 c.num.1, .int .i64 c.num.2, .slice ae ne ce, .slice al nl cl, .slice at_ c.seen.length cs] 30 (0, 0))
      have F0 : Frm No w (w.alloc (.cells #[.int .i64 0, .bool true, .int .i64 c.st.1, .int .i64 c.st.2, .string c.value, .int .i64 c.num.1, .int .i64 c.num.2, .slice ae ne ce, .slice al nl cl, .slice at_ c.seen.length cs] 30 (0, 0))) := (Frm.refl No w).al _
      obtain ⟨q0, q1, q2, q3, q4, q5, q6, q7, q8, q9⟩ := obj10 B0
      go_enter Tryz.func21, Tryz.ntmps21
      go_wp2_with (fail)
      refine (HVM.out _ F0).mono ?_
      rintro e w' ⟨rfl, rfl⟩
      go_wp2_with (fail)
      refine wp_still_drew (by kernel_rfl) (by kernel_rfl) ?_
      repeat still_step
      refine wpStill_nil ?_
      go_wp2_with (fail)
      go_ret
      exact ⟨congrArg (fun b => Ending.returned (Value.bool b)) ((hR.out.trans ((may_eq HV.out).trans (by simp only [← hk.out, hU.out, hM.out, decide_eq_false hN.out]; first | (simp; done) | (simp; have := hz.out; omega)))).symm), (F0.trans (Frm.drew No _))⟩
  · have B0 := heap_alloc_new w (.cells #[.int .i64 1, .bool true, .int .i64 c.st.1, .int .i64 c.st.2, .string c.value, .int .i64 c.num.1, .int .i64 c.num.2, .slice ae ne ce, .slice al nl cl, .slice at_ c.seen.length cs] 30 (0, 0))
    have F0 : Frm No w (w.alloc (.cells #[.int .i64 1, .bool true, .int .i64 c.st.1, .int .i64 c.st.2, .string c.value, .int .i64 c.num.1, .int .i64 c.num.2, .slice ae ne ce, .slice al nl cl, .slice at_ c.seen.length cs] 30 (0, 0))) := (Frm.refl No w).al _
    obtain ⟨q0, q1, q2, q3, q4, q5, q6, q7, q8, q9⟩ := obj10 B0
    go_enter Tryz.func21, Tryz.ntmps21
    go_wp2_with (fail)
    refine (HVM.out _ F0).mono ?_
    rintro e w' ⟨rfl, rfl⟩
    go_wp2_with (fail)
    refine wp_still_drew (by kernel_rfl) (by kernel_rfl) ?_
    repeat still_step
    refine wpStill_nil ?_
    go_wp2_with (fail)
    go_ret
    exact ⟨congrArg (fun b => Ending.returned (Value.bool b)) ((hR.out.trans ((may_eq HV.out).trans (by simp only [← hk.out, hU.out]; first | (simp; done) | (simp; have := hz.out; omega)))).symm), (F0.trans (Frm.drew No _))⟩
  · have B0 := heap_alloc_new w (.cells #[.int .i64 2, .bool true, .int .i64 c.st.1, .int .i64 c.st.2, .string c.value, .int .i64 c.num.1, .int .i64 c.num.2, .slice ae ne ce, .slice al nl cl, .slice at_ c.seen.length cs] 30 (0, 0))
    have F0 : Frm No w (w.alloc (.cells #[.int .i64 2, .bool true, .int .i64 c.st.1, .int .i64 c.st.2, .string c.value, .int .i64 c.num.1, .int .i64 c.num.2, .slice ae ne ce, .slice al nl cl, .slice at_ c.seen.length cs] 30 (0, 0))) := (Frm.refl No w).al _
    obtain ⟨q0, q1, q2, q3, q4, q5, q6, q7, q8, q9⟩ := obj10 B0
    go_enter Tryz.func21, Tryz.ntmps21
    go_wp2_with (fail)
    refine (HVM.out _ F0).mono ?_
    rintro e w' ⟨rfl, rfl⟩
    go_wp2_with (fail)
    refine wp_still_drew (by kernel_rfl) (by kernel_rfl) ?_
    repeat still_step
    refine wpStill_nil ?_
    go_wp2_with (fail)
    go_ret
    exact ⟨congrArg (fun b => Ending.returned (Value.bool b)) ((hR.out.trans ((may_eq HV.out).trans (by simp only [← hk.out, hU.out]; first | (simp; done) | (simp; have := hz.out; omega)))).symm), (F0.trans (Frm.drew No _))⟩
  · have B0 := heap_alloc_new w (.cells #[.int .i64 3, .bool true, .int .i64 c.st.1, .int .i64 c.st.2, .string c.value, .int .i64 c.num.1, .int .i64 c.num.2, .slice ae ne ce, .slice al nl cl, .slice at_ c.seen.length cs] 30 (0, 0))
    have F0 : Frm No w (w.alloc (.cells #[.int .i64 3, .bool true, .int .i64 c.st.1, .int .i64 c.st.2, .string c.value, .int .i64 c.num.1, .int .i64 c.num.2, .slice ae ne ce, .slice al nl cl, .slice at_ c.seen.length cs] 30 (0, 0))) := (Frm.refl No w).al _
    obtain ⟨q0, q1, q2, q3, q4, q5, q6, q7, q8, q9⟩ := obj10 B0
    go_enter Tryz.func21, Tryz.ntmps21
    go_wp2_with (fail)
    refine (HVM.out _ F0).mono ?_
    rintro e w' ⟨rfl, rfl⟩
    go_wp2_with (fail)
    refine wp_still_drew (by kernel_rfl) (by kernel_rfl) ?_
    repeat still_step
    refine wpStill_nil ?_
    go_wp2_with (fail)
    go_ret
    exact ⟨congrArg (fun b => Ending.returned (Value.bool b)) ((hR.out.trans ((may_eq HV.out).trans (by simp only [← hk.out, hU.out]; first | (simp; done) | (simp; have := hz.out; omega)))).symm), (F0.trans (Frm.drew No _))⟩
  · have B0 := heap_alloc_new w (.cells #[.int .i64 k, .bool true, .int .i64 c.st.1, .int .i64 c.st.2, .string c.value, .int .i64 c.num.1, .int .i64 c.num.2, .slice ae ne ce, .slice al nl cl, .slice at_ c.seen.length cs] 30 (0, 0))
    have F0 : Frm No w (w.alloc (.cells #[.int .i64 k, .bool true, .int .i64 c.st.1, .int .i64 c.st.2, .string c.value, .int .i64 c.num.1, .int .i64 c.num.2, .slice ae ne ce, .slice al nl cl, .slice at_ c.seen.length cs] 30 (0, 0))) := (Frm.refl No w).al _
    obtain ⟨q0, q1, q2, q3, q4, q5, q6, q7, q8, q9⟩ := obj10 B0
    go_enter Tryz.func21, Tryz.ntmps21
    go_wp2_with (fail)
    refine (HVM.out _ F0).mono ?_
    rintro e w' ⟨rfl, rfl⟩
    go_wp2_with (fail)
    refine wp_still_drew (by kernel_rfl) (by kernel_rfl) ?_
    repeat still_step
    refine wpStill_nil ?_
    go_wp2_with (fail)
    go_ret
    exact ⟨congrArg (fun b => Ending.returned (Value.bool b)) ((hR.out.trans ((may_eq HV.out).trans (by rw [← hk.out, if_neg k0, if_neg k1, if_neg k2, if_neg k3]))).symm), (F0.trans (Frm.drew No _))⟩
end Go.Proofs.YtofikfkgiblblaaGreatDoor
/- The reference: may a cell be? Way b. -/
namespace Go.Proofs.YtofikfkgiblblaaGreatDoor
open Go.RowKit Go.Lib Go.Tt Go.Shelf
set_option maxHeartbeats 8000000 in
set_option maxRecDepth 100000 in
theorem refMay_b {w : World} {c : CellV} {ve vl vs : Value} (h : CellR w c ve vl vs) (n : Int) (hv : vecMay c.seen n = true) (hset : c.set = false) (hst : ¬ (c.st.1 = 0 ∧ c.st.2 = 0)) :
    Calls Tryz.prog 21 #[cval c ve vl vs, .int .i64 n] w fun e w' => e = .returned (.bool (cellMay c n)) ∧ Frm No w w' := by
  have HR := Lib.hid h
  obtain ⟨he, hl, hs⟩ := h
  obtain ⟨ae, ce, rfl⟩ := he.sh
  obtain ⟨al, cl, rfl⟩ := hl.sh
  obtain ⟨at_, cs, rfl⟩ := hs.sh
  have HV := Lib.hid hv
  have HVM := Lib.hid (fun W (f : Frm No w W) => refVecMay_ok (hs.no f) n)
  rw [hv] at HVM
  obtain ⟨R, hR⟩ : ∃ R, Hid (R = cellMay c n) := ⟨_, Lib.hid rfl⟩
  rw [← hR.out]
  obtain ⟨k, hk⟩ : ∃ k, Hid (k = c.kind) := ⟨_, Lib.hid rfl⟩
  obtain ⟨ne, hne⟩ : ∃ k, Hid (k = c.ents.length) := ⟨_, Lib.hid rfl⟩
  obtain ⟨nl, hnl⟩ : ∃ k, Hid (k = c.elems.length) := ⟨_, Lib.hid rfl⟩
  have hU : Hid (decide (unsetC c) = false) := Lib.hid (decide_eq_false fun e => hst ⟨e.2.1, e.2.2.1⟩)
  have hM : Hid (setMay c n = false) := Lib.hid (by unfold setMay; rw [if_pos hset]; exact decide_eq_false fun e => hst ⟨e.1, e.2.1⟩)
  have E1 := fun W => eq_stamp c.st.1 c.st.2 0 0 W
  rw [decide_eq_false hst] at E1
  have hcv : ∀ e l s, cval c e l s = .agg #[.int .i64 k, .bool false, .int .i64 c.st.1, .int .i64 c.st.2, .string c.value, .int .i64 c.num.1, .int .i64 c.num.2, e, l, s] := by intro e l s; unfold cval; rw [← hk.out]; rw [hset]
  rw [hcv, ← hne.out, ← hnl.out]
  rw [← hne.out, ← hnl.out] at HR
  have HCV := Lib.hid hcv
  have HP := Lib.hid (fun W => refPairMay_ok c.num W)
  have HS := Lib.hid (fun W => stampMay_ok c.st n W)
  have E2 := fun W => eq_pair c.num.1 c.num.2 0 0 W
  clear he hl hs hv hcv hset hst
  have hcs : k = 0 ∨ k = 1 ∨ k = 2 ∨ k = 3 ∨ (¬ k = 0 ∧ ¬ k = 1 ∧ ¬ k = 2 ∧ ¬ k = 3) := by omega
  rcases hcs with rfl | rfl | rfl | rfl | ⟨k0, k1, k2, k3⟩
  · by_cases hN : c.num.1 = 0 ∧ c.num.2 = 0
    · rw [decide_eq_true hN] at E2
      replace hN := Lib.hid hN
      by_cases hS : ne = 0
      · subst hS
        have hS : Hid (c.ents.length = 0) := Lib.hid hne.out.symm
        by_cases hE : nl = 0
        · subst hE
          have hE : Hid (c.elems.length = 0) := Lib.hid hnl.out.symm
          have B0 := heap_alloc_new w (.cells #[.int .i64 0, .bool false, .int .i64 c.st.1, .int .i64 c.st.2, .string c.value, .int .i64 c.num.1, .int .i64 c.num.2, .slice ae 0 ce, .slice al 0 cl, .slice at_ c.seen.length cs] 30 (0, 0))
          have F0 : Frm No w (w.alloc (.cells #[.int .i64 0, .bool false, .int .i64 c.st.1, .int .i64 c.st.2, .string c.value, .int .i64 c.num.1, .int .i64 c.num.2, .slice ae 0 ce, .slice al 0 cl, .slice at_ c.seen.length cs] 30 (0, 0))) := (Frm.refl No w).al _
          obtain ⟨q0, q1, q2, q3, q4, q5, q6, q7, q8, q9⟩ := obj10 B0
          go_enter Tryz.func21, Tryz.ntmps21
          go_wp2_with (fail)
          refine (HVM.out _ F0).mono ?_
          rintro e w' ⟨rfl, rfl⟩
          go_wp2_with (fail)
          refine wp_still_drew (by kernel_rfl) (by kernel_rfl) ?_
          repeat still_step
          refine wpStill_nil ?_
          go_wp2_with (fail)
          go_ret
          exact ⟨congrArg (fun b => Ending.returned (Value.bool b)) ((hR.out.trans ((may_eq HV.out).trans (by simp only [← hk.out, hM.out, decide_eq_true hN.out, decide_eq_true hS.out, decide_eq_true hE.out]; first | (simp; done) | (simp; have := hz.out; omega)))).symm), (F0.trans (Frm.drew No _))⟩
        · have hE0 : ((nl : Int) == 0) = false := by simp; omega
          have hE1 : ¬ (nl : Int) = 0 := by omega
          replace hE : Hid (¬ c.elems.length = 0) := Lib.hid (by rw [← hnl.out]; exact hE)
          have B0 := heap_alloc_new w (.cells #[.int .i64 0, .bool false, .int .i64 c.st.1, .int .i64 c.st.2, .string c.value, .int .i64 c.num.1, .int .i64 c.num.2, .slice ae 0 ce, .slice al nl cl, .slice at_ c.seen.length cs] 30 (0, 0))
          have F0 : Frm No w (w.alloc (.cells #[.int .i64 0, .bool false, .int .i64 c.st.1, .int .i64 c.st.2, .string c.value, .int .i64 c.num.1, .int .i64 c.num.2, .slice ae 0 ce, .slice al nl cl, .slice at_ c.seen.length cs] 30 (0, 0))) := (Frm.refl No w).al _
          obtain ⟨q0, q1, q2, q3, q4, q5, q6, q7, q8, q9⟩ := obj10 B0
          go_enter Tryz.func21, Tryz.ntmps21
          go_wp2_with (fail)
          refine (HVM.out _ F0).mono ?_
          rintro e w' ⟨rfl, rfl⟩
          go_wp2_with (fail)
          refine wp_still_drew (by kernel_rfl) (by kernel_rfl) ?_
          repeat still_step
          refine wpStill_nil ?_
          go_wp2_with (fail)
          go_ret
          exact ⟨congrArg (fun b => Ending.returned (Value.bool b)) ((hR.out.trans ((may_eq HV.out).trans (by simp only [← hk.out, hU.out, hM.out, decide_eq_false hE.out]; first | (simp; done) | (simp; have := hz.out; omega)))).symm), (F0.trans (Frm.drew No _))⟩
      · have hS0 : ((ne : Int) == 0) = false := by simp; omega
        have hS1 : ¬ (ne : Int) = 0 := by omega
        replace hS : Hid (¬ c.ents.length = 0) := Lib.hid (by rw [← hne.out]; exact hS)
        have B0 := heap_alloc_new w (.cells #[.int .i64 0, .bool false, .int .i64 c.st.1, .int .i64 c.st.2, .string c.value, .int .i64 c.num.1, .int .i64 c.num.2, .slice ae ne ce, .slice al nl cl, .slice at_ c.seen.length cs] 30 (0, 0))
        have F0 : Frm No w (w.alloc (.cells #[.int .i64 0, .bool false, .int .i64 c.st.1, .int .i64 c.st.2, .string c.value, .int .i64 c.num.1, .int .i64 c.num.2, .slice ae ne ce, .slice al nl cl, .slice at_ c.seen.length cs] 30 (0, 0))) := (Frm.refl No w).al _
        obtain ⟨q0, q1, q2, q3, q4, q5, q6, q7, q8, q9⟩ := obj10 B0
        go_enter Tryz.func21, Tryz.ntmps21
        go_wp2_with (fail)
        refine (HVM.out _ F0).mono ?_
        rintro e w' ⟨rfl, rfl⟩
        go_wp2_with (fail)
        refine wp_still_drew (by kernel_rfl) (by kernel_rfl) ?_
        repeat still_step
        refine wpStill_nil ?_
        go_wp2_with (fail)
        go_ret
        exact ⟨congrArg (fun b => Ending.returned (Value.bool b)) ((hR.out.trans ((may_eq HV.out).trans (by simp only [← hk.out, hU.out, hM.out, decide_eq_false hS.out]; first | (simp; done) | (simp; have := hz.out; omega)))).symm), (F0.trans (Frm.drew No _))⟩
    · rw [decide_eq_false hN] at E2
      replace hN := Lib.hid hN
      have B0 := heap_alloc_new w (.cells #[.int .i64 0, .bool false, .int .i64 c.st.1, .int .i64 c.st.2, .string c.value, .int .i64 c.num.1, .int .i64 c.num.2, .slice ae ne ce, .slice al nl cl, .slice at_ c.seen.length cs] 30 (0, 0))
      have F0 : Frm No w (w.alloc (.cells #[.int .i64 0, .bool false, .int .i64 c.st.1, .int .i64 c.st.2, .string c.value, .int .i64 c.num.1, .int .i64 c.num.2, .slice ae ne ce, .slice al nl cl, .slice at_ c.seen.length cs] 30 (0, 0))) := (Frm.refl No w).al _
      obtain ⟨q0, q1, q2, q3, q4, q5, q6, q7, q8, q9⟩ := obj10 B0
      go_enter Tryz.func21, Tryz.ntmps21
      go_wp2_with (fail)
      refine (HVM.out _ F0).mono ?_
      rintro e w' ⟨rfl, rfl⟩
      go_wp2_with (fail)
      refine wp_still_drew (by kernel_rfl) (by kernel_rfl) ?_
      repeat still_step
      refine wpStill_nil ?_
      go_wp2_with (fail)
      go_ret
      exact ⟨congrArg (fun b => Ending.returned (Value.bool b)) ((hR.out.trans ((may_eq HV.out).trans (by simp only [← hk.out, hU.out, hM.out, decide_eq_false hN.out]; first | (simp; done) | (simp; have := hz.out; omega)))).symm), (F0.trans (Frm.drew No _))⟩
  · have B0 := heap_alloc_new w (.cells #[.int .i64 1, .bool false, .int .i64 c.st.1, .int .i64 c.st.2, .string c.value, .int .i64 c.num.1, .int .i64 c.num.2, .slice ae ne ce, .slice al nl cl, .slice at_ c.seen.length cs] 30 (0, 0))
    have F0 : Frm No w (w.alloc (.cells #[.int .i64 1, .bool false, .int .i64 c.st.1, .int .i64 c.st.2, .string c.value, .int .i64 c.num.1, .int .i64 c.num.2, .slice ae ne ce, .slice al nl cl, .slice at_ c.seen.length cs] 30 (0, 0))) := (Frm.refl No w).al _
    obtain ⟨q0, q1, q2, q3, q4, q5, q6, q7, q8, q9⟩ := obj10 B0
    go_enter Tryz.func21, Tryz.ntmps21
    go_wp2_with (fail)
    refine (HVM.out _ F0).mono ?_
    rintro e w' ⟨rfl, rfl⟩
    go_wp2_with (fail)
    refine wp_still_drew (by kernel_rfl) (by kernel_rfl) ?_
    repeat still_step
    refine wpStill_nil ?_
    go_wp2_with (fail)
    go_ret
    exact ⟨congrArg (fun b => Ending.returned (Value.bool b)) ((hR.out.trans ((may_eq HV.out).trans (by simp only [← hk.out, hU.out]; first | (simp; done) | (simp; have := hz.out; omega)))).symm), (F0.trans (Frm.drew No _))⟩
  · have B0 := heap_alloc_new w (.cells #[.int .i64 2, .bool false, .int .i64 c.st.1, .int .i64 c.st.2, .string c.value, .int .i64 c.num.1, .int .i64 c.num.2, .slice ae ne ce, .slice al nl cl, .slice at_ c.seen.length cs] 30 (0, 0))
    have F0 : Frm No w (w.alloc (.cells #[.int .i64 2, .bool false, .int .i64 c.st.1, .int .i64 c.st.2, .string c.value, .int .i64 c.num.1, .int .i64 c.num.2, .slice ae ne ce, .slice al nl cl, .slice at_ c.seen.length cs] 30 (0, 0))) := (Frm.refl No w).al _
    obtain ⟨q0, q1, q2, q3, q4, q5, q6, q7, q8, q9⟩ := obj10 B0
    go_enter Tryz.func21, Tryz.ntmps21
    go_wp2_with (fail)
    refine (HVM.out _ F0).mono ?_
    rintro e w' ⟨rfl, rfl⟩
    go_wp2_with (fail)
    refine wp_still_drew (by kernel_rfl) (by kernel_rfl) ?_
    repeat still_step
    refine wpStill_nil ?_
    go_wp2_with (fail)
    go_ret
    exact ⟨congrArg (fun b => Ending.returned (Value.bool b)) ((hR.out.trans ((may_eq HV.out).trans (by simp only [← hk.out, hU.out]; first | (simp; done) | (simp; have := hz.out; omega)))).symm), (F0.trans (Frm.drew No _))⟩
  · have B0 := heap_alloc_new w (.cells #[.int .i64 3, .bool false, .int .i64 c.st.1, .int .i64 c.st.2, .string c.value, .int .i64 c.num.1, .int .i64 c.num.2, .slice ae ne ce, .slice al nl cl, .slice at_ c.seen.length cs] 30 (0, 0))
    have F0 : Frm No w (w.alloc (.cells #[.int .i64 3, .bool false, .int .i64 c.st.1, .int .i64 c.st.2, .string c.value, .int .i64 c.num.1, .int .i64 c.num.2, .slice ae ne ce, .slice al nl cl, .slice at_ c.seen.length cs] 30 (0, 0))) := (Frm.refl No w).al _
    obtain ⟨q0, q1, q2, q3, q4, q5, q6, q7, q8, q9⟩ := obj10 B0
    go_enter Tryz.func21, Tryz.ntmps21
    go_wp2_with (fail)
    refine (HVM.out _ F0).mono ?_
    rintro e w' ⟨rfl, rfl⟩
    go_wp2_with (fail)
    refine wp_still_drew (by kernel_rfl) (by kernel_rfl) ?_
    repeat still_step
    refine wpStill_nil ?_
    go_wp2_with (fail)
    go_ret
    exact ⟨congrArg (fun b => Ending.returned (Value.bool b)) ((hR.out.trans ((may_eq HV.out).trans (by simp only [← hk.out, hU.out]; first | (simp; done) | (simp; have := hz.out; omega)))).symm), (F0.trans (Frm.drew No _))⟩
  · have B0 := heap_alloc_new w (.cells #[.int .i64 k, .bool false, .int .i64 c.st.1, .int .i64 c.st.2, .string c.value, .int .i64 c.num.1, .int .i64 c.num.2, .slice ae ne ce, .slice al nl cl, .slice at_ c.seen.length cs] 30 (0, 0))
    have F0 : Frm No w (w.alloc (.cells #[.int .i64 k, .bool false, .int .i64 c.st.1, .int .i64 c.st.2, .string c.value, .int .i64 c.num.1, .int .i64 c.num.2, .slice ae ne ce, .slice al nl cl, .slice at_ c.seen.length cs] 30 (0, 0))) := (Frm.refl No w).al _
    obtain ⟨q0, q1, q2, q3, q4, q5, q6, q7, q8, q9⟩ := obj10 B0
    go_enter Tryz.func21, Tryz.ntmps21
    go_wp2_with (fail)
    refine (HVM.out _ F0).mono ?_
    rintro e w' ⟨rfl, rfl⟩
    go_wp2_with (fail)
    refine wp_still_drew (by kernel_rfl) (by kernel_rfl) ?_
    repeat still_step
    refine wpStill_nil ?_
    go_wp2_with (fail)
    go_ret
    exact ⟨congrArg (fun b => Ending.returned (Value.bool b)) ((hR.out.trans ((may_eq HV.out).trans (by rw [← hk.out, if_neg k0, if_neg k1, if_neg k2, if_neg k3]))).symm), (F0.trans (Frm.drew No _))⟩
end Go.Proofs.YtofikfkgiblblaaGreatDoor
/- The reference: may a cell be? Way c. -/
namespace Go.Proofs.YtofikfkgiblblaaGreatDoor
open Go.RowKit Go.Lib Go.Tt Go.Shelf
set_option maxHeartbeats 8000000 in
set_option maxRecDepth 100000 in
theorem refMay_c {w : World} {c : CellV} {ve vl vs : Value} (h : CellR w c ve vl vs) (n : Int) (hv : vecMay c.seen n = true) (hset : c.set = false) (hst : c.st.1 = 0 ∧ c.st.2 = 0) (hvl : ¬ c.value.size = 0) :
    Calls Tryz.prog 21 #[cval c ve vl vs, .int .i64 n] w fun e w' => e = .returned (.bool (cellMay c n)) ∧ Frm No w w' := by
  have HR := Lib.hid h
  obtain ⟨he, hl, hs⟩ := h
  obtain ⟨ae, ce, rfl⟩ := he.sh
  obtain ⟨al, cl, rfl⟩ := hl.sh
  obtain ⟨at_, cs, rfl⟩ := hs.sh
  have HV := Lib.hid hv
  have HVM := Lib.hid (fun W (f : Frm No w W) => refVecMay_ok (hs.no f) n)
  rw [hv] at HVM
  obtain ⟨R, hR⟩ : ∃ R, Hid (R = cellMay c n) := ⟨_, Lib.hid rfl⟩
  rw [← hR.out]
  obtain ⟨k, hk⟩ : ∃ k, Hid (k = c.kind) := ⟨_, Lib.hid rfl⟩
  obtain ⟨ne, hne⟩ : ∃ k, Hid (k = c.ents.length) := ⟨_, Lib.hid rfl⟩
  obtain ⟨nl, hnl⟩ : ∃ k, Hid (k = c.elems.length) := ⟨_, Lib.hid rfl⟩
  have hU : Hid (decide (unsetC c) = false) := Lib.hid (decide_eq_false fun e => hvl e.2.2.2)
  have hM : Hid (setMay c n = false) := Lib.hid (by unfold setMay; rw [if_pos hset]; exact decide_eq_false fun e => hvl e.2.2)
  have E1 := fun W => eq_stamp c.st.1 c.st.2 0 0 W
  rw [decide_eq_true hst] at E1
  have hvp := ba_pos hvl
  have hcv : ∀ e l s, cval c e l s = .agg #[.int .i64 k, .bool false, .int .i64 c.st.1, .int .i64 c.st.2, .string c.value, .int .i64 c.num.1, .int .i64 c.num.2, e, l, s] := by intro e l s; unfold cval; rw [← hk.out]; rw [hset]
  rw [hcv, ← hne.out, ← hnl.out]
  rw [← hne.out, ← hnl.out] at HR
  have HCV := Lib.hid hcv
  have HP := Lib.hid (fun W => refPairMay_ok c.num W)
  have HS := Lib.hid (fun W => stampMay_ok c.st n W)
  have E2 := fun W => eq_pair c.num.1 c.num.2 0 0 W
  clear he hl hs hv hcv hset hst hvl
  have hcs : k = 0 ∨ k = 1 ∨ k = 2 ∨ k = 3 ∨ (¬ k = 0 ∧ ¬ k = 1 ∧ ¬ k = 2 ∧ ¬ k = 3) := by omega
  rcases hcs with rfl | rfl | rfl | rfl | ⟨k0, k1, k2, k3⟩
  · by_cases hN : c.num.1 = 0 ∧ c.num.2 = 0
    · rw [decide_eq_true hN] at E2
      replace hN := Lib.hid hN
      by_cases hS : ne = 0
      · subst hS
        have hS : Hid (c.ents.length = 0) := Lib.hid hne.out.symm
        by_cases hE : nl = 0
        · subst hE
          have hE : Hid (c.elems.length = 0) := Lib.hid hnl.out.symm
          have B0 := heap_alloc_new w (.cells #[.int .i64 0, .bool false, .int .i64 c.st.1, .int .i64 c.st.2, .string c.value, .int .i64 c.num.1, .int .i64 c.num.2, .slice ae 0 ce, .slice al 0 cl, .slice at_ c.seen.length cs] 30 (0, 0))
          have F0 : Frm No w (w.alloc (.cells #[.int .i64 0, .bool false, .int .i64 c.st.1, .int .i64 c.st.2, .string c.value, .int .i64 c.num.1, .int .i64 c.num.2, .slice ae 0 ce, .slice al 0 cl, .slice at_ c.seen.length cs] 30 (0, 0))) := (Frm.refl No w).al _
          obtain ⟨q0, q1, q2, q3, q4, q5, q6, q7, q8, q9⟩ := obj10 B0
          go_enter Tryz.func21, Tryz.ntmps21
          go_wp2_with (fail)
          refine (HVM.out _ F0).mono ?_
          rintro e w' ⟨rfl, rfl⟩
          go_wp2_with (fail)
          refine wp_still_drew (by kernel_rfl) (by kernel_rfl) ?_
          repeat still_step
          refine wpStill_nil ?_
          go_wp2_with (fail)
          go_ret
          exact ⟨congrArg (fun b => Ending.returned (Value.bool b)) ((hR.out.trans ((may_eq HV.out).trans (by simp only [← hk.out, hM.out, decide_eq_true hN.out, decide_eq_true hS.out, decide_eq_true hE.out]; first | (simp; done) | (simp; have := hz.out; omega)))).symm), (F0.trans (Frm.drew No _))⟩
        · have hE0 : ((nl : Int) == 0) = false := by simp; omega
          have hE1 : ¬ (nl : Int) = 0 := by omega
          replace hE : Hid (¬ c.elems.length = 0) := Lib.hid (by rw [← hnl.out]; exact hE)
          have B0 := heap_alloc_new w (.cells #[.int .i64 0, .bool false, .int .i64 c.st.1, .int .i64 c.st.2, .string c.value, .int .i64 c.num.1, .int .i64 c.num.2, .slice ae 0 ce, .slice al nl cl, .slice at_ c.seen.length cs] 30 (0, 0))
          have F0 : Frm No w (w.alloc (.cells #[.int .i64 0, .bool false, .int .i64 c.st.1, .int .i64 c.st.2, .string c.value, .int .i64 c.num.1, .int .i64 c.num.2, .slice ae 0 ce, .slice al nl cl, .slice at_ c.seen.length cs] 30 (0, 0))) := (Frm.refl No w).al _
          obtain ⟨q0, q1, q2, q3, q4, q5, q6, q7, q8, q9⟩ := obj10 B0
          go_enter Tryz.func21, Tryz.ntmps21
          go_wp2_with (fail)
          refine (HVM.out _ F0).mono ?_
          rintro e w' ⟨rfl, rfl⟩
          go_wp2_with (fail)
          refine wp_still_drew (by kernel_rfl) (by kernel_rfl) ?_
          repeat still_step
          refine wpStill_nil ?_
          go_wp2_with (fail)
          go_ret
          exact ⟨congrArg (fun b => Ending.returned (Value.bool b)) ((hR.out.trans ((may_eq HV.out).trans (by simp only [← hk.out, hU.out, hM.out, decide_eq_false hE.out]; first | (simp; done) | (simp; have := hz.out; omega)))).symm), (F0.trans (Frm.drew No _))⟩
      · have hS0 : ((ne : Int) == 0) = false := by simp; omega
        have hS1 : ¬ (ne : Int) = 0 := by omega
        replace hS : Hid (¬ c.ents.length = 0) := Lib.hid (by rw [← hne.out]; exact hS)
        have B0 := heap_alloc_new w (.cells #[.int .i64 0, .bool false, .int .i64 c.st.1, .int .i64 c.st.2, .string c.value, .int .i64 c.num.1, .int .i64 c.num.2, .slice ae ne ce, .slice al nl cl, .slice at_ c.seen.length cs] 30 (0, 0))
        have F0 : Frm No w (w.alloc (.cells #[.int .i64 0, .bool false, .int .i64 c.st.1, .int .i64 c.st.2, .string c.value, .int .i64 c.num.1, .int .i64 c.num.2, .slice ae ne ce, .slice al nl cl, .slice at_ c.seen.length cs] 30 (0, 0))) := (Frm.refl No w).al _
        obtain ⟨q0, q1, q2, q3, q4, q5, q6, q7, q8, q9⟩ := obj10 B0
        go_enter Tryz.func21, Tryz.ntmps21
        go_wp2_with (fail)
        refine (HVM.out _ F0).mono ?_
        rintro e w' ⟨rfl, rfl⟩
        go_wp2_with (fail)
        refine wp_still_drew (by kernel_rfl) (by kernel_rfl) ?_
        repeat still_step
        refine wpStill_nil ?_
        go_wp2_with (fail)
        go_ret
        exact ⟨congrArg (fun b => Ending.returned (Value.bool b)) ((hR.out.trans ((may_eq HV.out).trans (by simp only [← hk.out, hU.out, hM.out, decide_eq_false hS.out]; first | (simp; done) | (simp; have := hz.out; omega)))).symm), (F0.trans (Frm.drew No _))⟩
    · rw [decide_eq_false hN] at E2
      replace hN := Lib.hid hN
      have B0 := heap_alloc_new w (.cells #[.int .i64 0, .bool false, .int .i64 c.st.1, .int .i64 c.st.2, .string c.value, .int .i64 c.num.1, .int .i64 c.num.2, .slice ae ne ce, .slice al nl cl, .slice at_ c.seen.length cs] 30 (0, 0))
      have F0 : Frm No w (w.alloc (.cells #[.int .i64 0, .bool false, .int .i64 c.st.1, .int .i64 c.st.2, .string c.value, .int .i64 c.num.1, .int .i64 c.num.2, .slice ae ne ce, .slice al nl cl, .slice at_ c.seen.length cs] 30 (0, 0))) := (Frm.refl No w).al _
      obtain ⟨q0, q1, q2, q3, q4, q5, q6, q7, q8, q9⟩ := obj10 B0
      go_enter Tryz.func21, Tryz.ntmps21
      go_wp2_with (fail)
      refine (HVM.out _ F0).mono ?_
      rintro e w' ⟨rfl, rfl⟩
      go_wp2_with (fail)
      refine wp_still_drew (by kernel_rfl) (by kernel_rfl) ?_
      repeat still_step
      refine wpStill_nil ?_
      go_wp2_with (fail)
      go_ret
      exact ⟨congrArg (fun b => Ending.returned (Value.bool b)) ((hR.out.trans ((may_eq HV.out).trans (by simp only [← hk.out, hU.out, hM.out, decide_eq_false hN.out]; first | (simp; done) | (simp; have := hz.out; omega)))).symm), (F0.trans (Frm.drew No _))⟩
  · have B0 := heap_alloc_new w (.cells #[.int .i64 1, .bool false, .int .i64 c.st.1, .int .i64 c.st.2, .string c.value, .int .i64 c.num.1, .int .i64 c.num.2, .slice ae ne ce, .slice al nl cl, .slice at_ c.seen.length cs] 30 (0, 0))
    have F0 : Frm No w (w.alloc (.cells #[.int .i64 1, .bool false, .int .i64 c.st.1, .int .i64 c.st.2, .string c.value, .int .i64 c.num.1, .int .i64 c.num.2, .slice ae ne ce, .slice al nl cl, .slice at_ c.seen.length cs] 30 (0, 0))) := (Frm.refl No w).al _
    obtain ⟨q0, q1, q2, q3, q4, q5, q6, q7, q8, q9⟩ := obj10 B0
    go_enter Tryz.func21, Tryz.ntmps21
    go_wp2_with (fail)
    refine (HVM.out _ F0).mono ?_
    rintro e w' ⟨rfl, rfl⟩
    go_wp2_with (fail)
    refine wp_still_drew (by kernel_rfl) (by kernel_rfl) ?_
    repeat still_step
    refine wpStill_nil ?_
    go_wp2_with (fail)
    go_ret
    exact ⟨congrArg (fun b => Ending.returned (Value.bool b)) ((hR.out.trans ((may_eq HV.out).trans (by simp only [← hk.out, hU.out]; first | (simp; done) | (simp; have := hz.out; omega)))).symm), (F0.trans (Frm.drew No _))⟩
  · have B0 := heap_alloc_new w (.cells #[.int .i64 2, .bool false, .int .i64 c.st.1, .int .i64 c.st.2, .string c.value, .int .i64 c.num.1, .int .i64 c.num.2, .slice ae ne ce, .slice al nl cl, .slice at_ c.seen.length cs] 30 (0, 0))
    have F0 : Frm No w (w.alloc (.cells #[.int .i64 2, .bool false, .int .i64 c.st.1, .int .i64 c.st.2, .string c.value, .int .i64 c.num.1, .int .i64 c.num.2, .slice ae ne ce, .slice al nl cl, .slice at_ c.seen.length cs] 30 (0, 0))) := (Frm.refl No w).al _
    obtain ⟨q0, q1, q2, q3, q4, q5, q6, q7, q8, q9⟩ := obj10 B0
    go_enter Tryz.func21, Tryz.ntmps21
    go_wp2_with (fail)
    refine (HVM.out _ F0).mono ?_
    rintro e w' ⟨rfl, rfl⟩
    go_wp2_with (fail)
    refine wp_still_drew (by kernel_rfl) (by kernel_rfl) ?_
    repeat still_step
    refine wpStill_nil ?_
    go_wp2_with (fail)
    go_ret
    exact ⟨congrArg (fun b => Ending.returned (Value.bool b)) ((hR.out.trans ((may_eq HV.out).trans (by simp only [← hk.out, hU.out]; first | (simp; done) | (simp; have := hz.out; omega)))).symm), (F0.trans (Frm.drew No _))⟩
  · have B0 := heap_alloc_new w (.cells #[.int .i64 3, .bool false, .int .i64 c.st.1, .int .i64 c.st.2, .string c.value, .int .i64 c.num.1, .int .i64 c.num.2, .slice ae ne ce, .slice al nl cl, .slice at_ c.seen.length cs] 30 (0, 0))
    have F0 : Frm No w (w.alloc (.cells #[.int .i64 3, .bool false, .int .i64 c.st.1, .int .i64 c.st.2, .string c.value, .int .i64 c.num.1, .int .i64 c.num.2, .slice ae ne ce, .slice al nl cl, .slice at_ c.seen.length cs] 30 (0, 0))) := (Frm.refl No w).al _
    obtain ⟨q0, q1, q2, q3, q4, q5, q6, q7, q8, q9⟩ := obj10 B0
    go_enter Tryz.func21, Tryz.ntmps21
    go_wp2_with (fail)
    refine (HVM.out _ F0).mono ?_
    rintro e w' ⟨rfl, rfl⟩
    go_wp2_with (fail)
    refine wp_still_drew (by kernel_rfl) (by kernel_rfl) ?_
    repeat still_step
    refine wpStill_nil ?_
    go_wp2_with (fail)
    go_ret
    exact ⟨congrArg (fun b => Ending.returned (Value.bool b)) ((hR.out.trans ((may_eq HV.out).trans (by simp only [← hk.out, hU.out]; first | (simp; done) | (simp; have := hz.out; omega)))).symm), (F0.trans (Frm.drew No _))⟩
  · have B0 := heap_alloc_new w (.cells #[.int .i64 k, .bool false, .int .i64 c.st.1, .int .i64 c.st.2, .string c.value, .int .i64 c.num.1, .int .i64 c.num.2, .slice ae ne ce, .slice al nl cl, .slice at_ c.seen.length cs] 30 (0, 0))
    have F0 : Frm No w (w.alloc (.cells #[.int .i64 k, .bool false, .int .i64 c.st.1, .int .i64 c.st.2, .string c.value, .int .i64 c.num.1, .int .i64 c.num.2, .slice ae ne ce, .slice al nl cl, .slice at_ c.seen.length cs] 30 (0, 0))) := (Frm.refl No w).al _
    obtain ⟨q0, q1, q2, q3, q4, q5, q6, q7, q8, q9⟩ := obj10 B0
    go_enter Tryz.func21, Tryz.ntmps21
    go_wp2_with (fail)
    refine (HVM.out _ F0).mono ?_
    rintro e w' ⟨rfl, rfl⟩
    go_wp2_with (fail)
    refine wp_still_drew (by kernel_rfl) (by kernel_rfl) ?_
    repeat still_step
    refine wpStill_nil ?_
    go_wp2_with (fail)
    go_ret
    exact ⟨congrArg (fun b => Ending.returned (Value.bool b)) ((hR.out.trans ((may_eq HV.out).trans (by rw [← hk.out, if_neg k0, if_neg k1, if_neg k2, if_neg k3]))).symm), (F0.trans (Frm.drew No _))⟩
end Go.Proofs.YtofikfkgiblblaaGreatDoor
/- The reference: may a cell be? Way d. -/
namespace Go.Proofs.YtofikfkgiblblaaGreatDoor
open Go.RowKit Go.Lib Go.Tt Go.Shelf
set_option maxHeartbeats 8000000 in
set_option maxRecDepth 100000 in
theorem refMay_d {w : World} {c : CellV} {ve vl vs : Value} (h : CellR w c ve vl vs) (n : Int) (hv : vecMay c.seen n = true) (hset : c.set = false) (hst : c.st.1 = 0 ∧ c.st.2 = 0) (hvl : c.value.size = 0) :
    Calls Tryz.prog 21 #[cval c ve vl vs, .int .i64 n] w fun e w' => e = .returned (.bool (cellMay c n)) ∧ Frm No w w' := by
  have HR := Lib.hid h
  obtain ⟨he, hl, hs⟩ := h
  obtain ⟨ae, ce, rfl⟩ := he.sh
  obtain ⟨al, cl, rfl⟩ := hl.sh
  obtain ⟨at_, cs, rfl⟩ := hs.sh
  have HV := Lib.hid hv
  have HVM := Lib.hid (fun W (f : Frm No w W) => refVecMay_ok (hs.no f) n)
  rw [hv] at HVM
  obtain ⟨R, hR⟩ : ∃ R, Hid (R = cellMay c n) := ⟨_, Lib.hid rfl⟩
  rw [← hR.out]
  obtain ⟨k, hk⟩ : ∃ k, Hid (k = c.kind) := ⟨_, Lib.hid rfl⟩
  obtain ⟨ne, hne⟩ : ∃ k, Hid (k = c.ents.length) := ⟨_, Lib.hid rfl⟩
  obtain ⟨nl, hnl⟩ : ∃ k, Hid (k = c.elems.length) := ⟨_, Lib.hid rfl⟩
  have hU : Hid (decide (unsetC c) = true) := Lib.hid (decide_eq_true ⟨hset, hst.1, hst.2, hvl⟩)
  have hM : Hid (setMay c n = true) := Lib.hid (by unfold setMay; rw [if_pos hset]; exact decide_eq_true ⟨hst.1, hst.2, hvl⟩)
  have hve := ba_nil hvl
  have E1 := fun W => eq_stamp c.st.1 c.st.2 0 0 W
  rw [decide_eq_true hst] at E1
  have hcv : ∀ e l s, cval c e l s = .agg #[.int .i64 k, .bool false, .int .i64 c.st.1, .int .i64 c.st.2, .string ⟨#[]⟩, .int .i64 c.num.1, .int .i64 c.num.2, e, l, s] := by intro e l s; unfold cval; rw [← hk.out]; rw [hset, hve]
  rw [hcv, ← hne.out, ← hnl.out]
  rw [← hne.out, ← hnl.out] at HR
  have HCV := Lib.hid hcv
  have HP := Lib.hid (fun W => refPairMay_ok c.num W)
  have HS := Lib.hid (fun W => stampMay_ok c.st n W)
  have E2 := fun W => eq_pair c.num.1 c.num.2 0 0 W
  clear he hl hs hv hcv hset hst hvl hve
  have hcs : k = 0 ∨ k = 1 ∨ k = 2 ∨ k = 3 ∨ (¬ k = 0 ∧ ¬ k = 1 ∧ ¬ k = 2 ∧ ¬ k = 3) := by omega
  rcases hcs with rfl | rfl | rfl | rfl | ⟨k0, k1, k2, k3⟩
  · by_cases hN : c.num.1 = 0 ∧ c.num.2 = 0
    · rw [decide_eq_true hN] at E2
      replace hN := Lib.hid hN
      by_cases hS : ne = 0
      · subst hS
        have hS : Hid (c.ents.length = 0) := Lib.hid hne.out.symm
        by_cases hE : nl = 0
        · subst hE
          have hE : Hid (c.elems.length = 0) := Lib.hid hnl.out.symm
          have B0 := heap_alloc_new w (.cells #[.int .i64 0, .bool false, .int .i64 c.st.1, .int .i64 c.st.2, .string ⟨#[]⟩, .int .i64 c.num.1, .int .i64 c.num.2, .slice ae 0 ce, .slice al 0 cl, .slice at_ c.seen.length cs] 30 (0, 0))
          have F0 : Frm No w (w.alloc (.cells #[.int .i64 0, .bool false, .int .i64 c.st.1, .int .i64 c.st.2, .string ⟨#[]⟩, .int .i64 c.num.1, .int .i64 c.num.2, .slice ae 0 ce, .slice al 0 cl, .slice at_ c.seen.length cs] 30 (0, 0))) := (Frm.refl No w).al _
          obtain ⟨q0, q1, q2, q3, q4, q5, q6, q7, q8, q9⟩ := obj10 B0
          go_enter Tryz.func21, Tryz.ntmps21
          go_wp2_with (fail)
          refine (HVM.out _ F0).mono ?_
          rintro e w' ⟨rfl, rfl⟩
          go_wp2_with (fail)
          refine wp_still_drew (by kernel_rfl) (by kernel_rfl) ?_
          repeat still_step
          refine wpStill_nil ?_
          go_wp2_with (fail)
          go_ret
          exact ⟨congrArg (fun b => Ending.returned (Value.bool b)) ((hR.out.trans ((may_eq HV.out).trans (by simp only [← hk.out, hM.out, decide_eq_true hN.out, decide_eq_true hS.out, decide_eq_true hE.out]; first | (simp; done) | (simp; have := hz.out; omega)))).symm), (F0.trans (Frm.drew No _))⟩
        · have hE0 : ((nl : Int) == 0) = false := by simp; omega
          have hE1 : ¬ (nl : Int) = 0 := by omega
          replace hE : Hid (¬ c.elems.length = 0) := Lib.hid (by rw [← hnl.out]; exact hE)
          have B0 := heap_alloc_new w (.cells #[.int .i64 0, .bool false, .int .i64 c.st.1, .int .i64 c.st.2, .string ⟨#[]⟩, .int .i64 c.num.1, .int .i64 c.num.2, .slice ae 0 ce, .slice al nl cl, .slice at_ c.seen.length cs] 30 (0, 0))
          have F0 : Frm No w (w.alloc (.cells #[.int .i64 0, .bool false, .int .i64 c.st.1, .int .i64 c.st.2, .string ⟨#[]⟩, .int .i64 c.num.1, .int .i64 c.num.2, .slice ae 0 ce, .slice al nl cl, .slice at_ c.seen.length cs] 30 (0, 0))) := (Frm.refl No w).al _
          obtain ⟨q0, q1, q2, q3, q4, q5, q6, q7, q8, q9⟩ := obj10 B0
          go_enter Tryz.func21, Tryz.ntmps21
          go_wp2_with (fail)
          refine (HVM.out _ F0).mono ?_
          rintro e w' ⟨rfl, rfl⟩
          go_wp2_with (fail)
          refine wp_still_drew (by kernel_rfl) (by kernel_rfl) ?_
          repeat still_step
          refine wpStill_nil ?_
          go_wp2_with (fail)
          go_ret
          exact ⟨congrArg (fun b => Ending.returned (Value.bool b)) ((hR.out.trans ((may_eq HV.out).trans (by simp only [← hk.out, hU.out, hM.out, decide_eq_false hE.out]; first | (simp; done) | (simp; have := hz.out; omega)))).symm), (F0.trans (Frm.drew No _))⟩
      · have hS0 : ((ne : Int) == 0) = false := by simp; omega
        have hS1 : ¬ (ne : Int) = 0 := by omega
        replace hS : Hid (¬ c.ents.length = 0) := Lib.hid (by rw [← hne.out]; exact hS)
        have B0 := heap_alloc_new w (.cells #[.int .i64 0, .bool false, .int .i64 c.st.1, .int .i64 c.st.2, .string ⟨#[]⟩, .int .i64 c.num.1, .int .i64 c.num.2, .slice ae ne ce, .slice al nl cl, .slice at_ c.seen.length cs] 30 (0, 0))
        have F0 : Frm No w (w.alloc (.cells #[.int .i64 0, .bool false, .int .i64 c.st.1, .int .i64 c.st.2, .string ⟨#[]⟩, .int .i64 c.num.1, .int .i64 c.num.2, .slice ae ne ce, .slice al nl cl, .slice at_ c.seen.length cs] 30 (0, 0))) := (Frm.refl No w).al _
        obtain ⟨q0, q1, q2, q3, q4, q5, q6, q7, q8, q9⟩ := obj10 B0
        go_enter Tryz.func21, Tryz.ntmps21
        go_wp2_with (fail)
        refine (HVM.out _ F0).mono ?_
        rintro e w' ⟨rfl, rfl⟩
        go_wp2_with (fail)
        refine wp_still_drew (by kernel_rfl) (by kernel_rfl) ?_
        repeat still_step
        refine wpStill_nil ?_
        go_wp2_with (fail)
        go_ret
        exact ⟨congrArg (fun b => Ending.returned (Value.bool b)) ((hR.out.trans ((may_eq HV.out).trans (by simp only [← hk.out, hU.out, hM.out, decide_eq_false hS.out]; first | (simp; done) | (simp; have := hz.out; omega)))).symm), (F0.trans (Frm.drew No _))⟩
    · rw [decide_eq_false hN] at E2
      replace hN := Lib.hid hN
      have B0 := heap_alloc_new w (.cells #[.int .i64 0, .bool false, .int .i64 c.st.1, .int .i64 c.st.2, .string ⟨#[]⟩, .int .i64 c.num.1, .int .i64 c.num.2, .slice ae ne ce, .slice al nl cl, .slice at_ c.seen.length cs] 30 (0, 0))
      have F0 : Frm No w (w.alloc (.cells #[.int .i64 0, .bool false, .int .i64 c.st.1, .int .i64 c.st.2, .string ⟨#[]⟩, .int .i64 c.num.1, .int .i64 c.num.2, .slice ae ne ce, .slice al nl cl, .slice at_ c.seen.length cs] 30 (0, 0))) := (Frm.refl No w).al _
      obtain ⟨q0, q1, q2, q3, q4, q5, q6, q7, q8, q9⟩ := obj10 B0
      go_enter Tryz.func21, Tryz.ntmps21
      go_wp2_with (fail)
      refine (HVM.out _ F0).mono ?_
      rintro e w' ⟨rfl, rfl⟩
      go_wp2_with (fail)
      refine wp_still_drew (by kernel_rfl) (by kernel_rfl) ?_
      repeat still_step
      refine wpStill_nil ?_
      go_wp2_with (fail)
      go_ret
      exact ⟨congrArg (fun b => Ending.returned (Value.bool b)) ((hR.out.trans ((may_eq HV.out).trans (by simp only [← hk.out, hU.out, hM.out, decide_eq_false hN.out]; first | (simp; done) | (simp; have := hz.out; omega)))).symm), (F0.trans (Frm.drew No _))⟩
  · by_cases hS : ne = 0
    · subst hS
      have hS : Hid (c.ents.length = 0) := Lib.hid hne.out.symm
      by_cases hE : nl = 0
      · subst hE
        have hE : Hid (c.elems.length = 0) := Lib.hid hnl.out.symm
        obtain ⟨X, hX⟩ : ∃ X, Hid (X = pairMay c.num) := ⟨_, Lib.hid rfl⟩
        simp only [← hX.out] at HP
        have B0 := heap_alloc_new w (.cells #[.int .i64 1, .bool false, .int .i64 c.st.1, .int .i64 c.st.2, .string ⟨#[]⟩, .int .i64 c.num.1, .int .i64 c.num.2, .slice ae 0 ce, .slice al 0 cl, .slice at_ c.seen.length cs] 30 (0, 0))
        have F0 : Frm No w (w.alloc (.cells #[.int .i64 1, .bool false, .int .i64 c.st.1, .int .i64 c.st.2, .string ⟨#[]⟩, .int .i64 c.num.1, .int .i64 c.num.2, .slice ae 0 ce, .slice al 0 cl, .slice at_ c.seen.length cs] 30 (0, 0))) := (Frm.refl No w).al _
        obtain ⟨q0, q1, q2, q3, q4, q5, q6, q7, q8, q9⟩ := obj10 B0
        go_enter Tryz.func21, Tryz.ntmps21
        go_wp2_with (fail)
        refine (HVM.out _ F0).mono ?_
        rintro e w' ⟨rfl, rfl⟩
        go_wp2_with (fail)
        refine wp_still_drew (by kernel_rfl) (by kernel_rfl) ?_
        repeat still_step
        refine wpStill_nil ?_
        go_wp2_with (fail)
        refine (HP.out _).mono ?_
        rintro e w2 ⟨rfl, f2⟩
        go_wp2_with (fail)
        go_ret
        exact ⟨congrArg (fun b => Ending.returned (Value.bool b)) ((hR.out.trans ((may_eq HV.out).trans (by simp only [← hk.out, hU.out, ← hX.out, decide_eq_true hS.out, decide_eq_true hE.out]; first | (simp; done) | (simp; have := hz.out; omega)))).symm), ((F0.trans (Frm.drew No _)).trans f2)⟩
      · have hE0 : ((nl : Int) == 0) = false := by simp; omega
        have hE1 : ¬ (nl : Int) = 0 := by omega
        replace hE : Hid (¬ c.elems.length = 0) := Lib.hid (by rw [← hnl.out]; exact hE)
        have B0 := heap_alloc_new w (.cells #[.int .i64 1, .bool false, .int .i64 c.st.1, .int .i64 c.st.2, .string ⟨#[]⟩, .int .i64 c.num.1, .int .i64 c.num.2, .slice ae 0 ce, .slice al nl cl, .slice at_ c.seen.length cs] 30 (0, 0))
        have F0 : Frm No w (w.alloc (.cells #[.int .i64 1, .bool false, .int .i64 c.st.1, .int .i64 c.st.2, .string ⟨#[]⟩, .int .i64 c.num.1, .int .i64 c.num.2, .slice ae 0 ce, .slice al nl cl, .slice at_ c.seen.length cs] 30 (0, 0))) := (Frm.refl No w).al _
        obtain ⟨q0, q1, q2, q3, q4, q5, q6, q7, q8, q9⟩ := obj10 B0
        go_enter Tryz.func21, Tryz.ntmps21
        go_wp2_with (fail)
        refine (HVM.out _ F0).mono ?_
        rintro e w' ⟨rfl, rfl⟩
        go_wp2_with (fail)
        refine wp_still_drew (by kernel_rfl) (by kernel_rfl) ?_
        repeat still_step
        refine wpStill_nil ?_
        go_wp2_with (fail)
        go_ret
        exact ⟨congrArg (fun b => Ending.returned (Value.bool b)) ((hR.out.trans ((may_eq HV.out).trans (by simp only [← hk.out, hU.out, hM.out, decide_eq_false hE.out]; first | (simp; done) | (simp; have := hz.out; omega)))).symm), (F0.trans (Frm.drew No _))⟩
    · have hS0 : ((ne : Int) == 0) = false := by simp; omega
      have hS1 : ¬ (ne : Int) = 0 := by omega
      replace hS : Hid (¬ c.ents.length = 0) := Lib.hid (by rw [← hne.out]; exact hS)
      have B0 := heap_alloc_new w (.cells #[.int .i64 1, .bool false, .int .i64 c.st.1, .int .i64 c.st.2, .string ⟨#[]⟩, .int .i64 c.num.1, .int .i64 c.num.2, .slice ae ne ce, .slice al nl cl, .slice at_ c.seen.length cs] 30 (0, 0))
      have F0 : Frm No w (w.alloc (.cells #[.int .i64 1, .bool false, .int .i64 c.st.1, .int .i64 c.st.2, .string ⟨#[]⟩, .int .i64 c.num.1, .int .i64 c.num.2, .slice ae ne ce, .slice al nl cl, .slice at_ c.seen.length cs] 30 (0, 0))) := (Frm.refl No w).al _
      obtain ⟨q0, q1, q2, q3, q4, q5, q6, q7, q8, q9⟩ := obj10 B0
      go_enter Tryz.func21, Tryz.ntmps21
      go_wp2_with (fail)
      refine (HVM.out _ F0).mono ?_
      rintro e w' ⟨rfl, rfl⟩
      go_wp2_with (fail)
      refine wp_still_drew (by kernel_rfl) (by kernel_rfl) ?_
      repeat still_step
      refine wpStill_nil ?_
      go_wp2_with (fail)
      go_ret
      exact ⟨congrArg (fun b => Ending.returned (Value.bool b)) ((hR.out.trans ((may_eq HV.out).trans (by simp only [← hk.out, hU.out, hM.out, decide_eq_false hS.out]; first | (simp; done) | (simp; have := hz.out; omega)))).symm), (F0.trans (Frm.drew No _))⟩
  · by_cases hN : c.num.1 = 0 ∧ c.num.2 = 0
    · rw [decide_eq_true hN] at E2
      replace hN := Lib.hid hN
      by_cases hE : nl = 0
      · subst hE
        have hE : Hid (c.elems.length = 0) := Lib.hid hnl.out.symm
        obtain ⟨X, hX⟩ : ∃ X, Hid (X = entsMay c) := ⟨_, Lib.hid rfl⟩
        have HEn := Lib.hid (fun W (f : Frm No w W) => refEntries_ok (HR.out.no f))
        simp only [HCV.out] at HEn
        simp only [← hX.out] at HEn
        have B0 := heap_alloc_new w (.cells #[.int .i64 2, .bool false, .int .i64 c.st.1, .int .i64 c.st.2, .string ⟨#[]⟩, .int .i64 c.num.1, .int .i64 c.num.2, .slice ae ne ce, .slice al 0 cl, .slice at_ c.seen.length cs] 30 (0, 0))
        have F0 : Frm No w (w.alloc (.cells #[.int .i64 2, .bool false, .int .i64 c.st.1, .int .i64 c.st.2, .string ⟨#[]⟩, .int .i64 c.num.1, .int .i64 c.num.2, .slice ae ne ce, .slice al 0 cl, .slice at_ c.seen.length cs] 30 (0, 0))) := (Frm.refl No w).al _
        obtain ⟨q0, q1, q2, q3, q4, q5, q6, q7, q8, q9⟩ := obj10 B0
        go_enter Tryz.func21, Tryz.ntmps21
        go_wp2_with (fail)
        refine (HVM.out _ F0).mono ?_
        rintro e w' ⟨rfl, rfl⟩
        go_wp2_with (fail)
        refine wp_still_drew (by kernel_rfl) (by kernel_rfl) ?_
        repeat still_step
        refine wpStill_nil ?_
        go_wp2_with (fail)
        refine (HEn.out _ (F0.trans (Frm.drew No _))).mono ?_
        rintro e w2 ⟨rfl, f2⟩
        go_wp2_with (fail)
        go_ret
        exact ⟨congrArg (fun b => Ending.returned (Value.bool b)) ((hR.out.trans ((may_eq HV.out).trans (by simp only [← hk.out, hU.out, ← hX.out, decide_eq_true hN.out, decide_eq_true hE.out]; first | (simp; done) | (simp; have := hz.out; omega)))).symm), ((F0.trans (Frm.drew No _)).trans f2)⟩
      · have hE0 : ((nl : Int) == 0) = false := by simp; omega
        have hE1 : ¬ (nl : Int) = 0 := by omega
        replace hE : Hid (¬ c.elems.length = 0) := Lib.hid (by rw [← hnl.out]; exact hE)
        have B0 := heap_alloc_new w (.cells #[.int .i64 2, .bool false, .int .i64 c.st.1, .int .i64 c.st.2, .string ⟨#[]⟩, .int .i64 c.num.1, .int .i64 c.num.2, .slice ae ne ce, .slice al nl cl, .slice at_ c.seen.length cs] 30 (0, 0))
        have F0 : Frm No w (w.alloc (.cells #[.int .i64 2, .bool false, .int .i64 c.st.1, .int .i64 c.st.2, .string ⟨#[]⟩, .int .i64 c.num.1, .int .i64 c.num.2, .slice ae ne ce, .slice al nl cl, .slice at_ c.seen.length cs] 30 (0, 0))) := (Frm.refl No w).al _
        obtain ⟨q0, q1, q2, q3, q4, q5, q6, q7, q8, q9⟩ := obj10 B0
        go_enter Tryz.func21, Tryz.ntmps21
        go_wp2_with (fail)
        refine (HVM.out _ F0).mono ?_
        rintro e w' ⟨rfl, rfl⟩
        go_wp2_with (fail)
        refine wp_still_drew (by kernel_rfl) (by kernel_rfl) ?_
        repeat still_step
        refine wpStill_nil ?_
        go_wp2_with (fail)
        go_ret
        exact ⟨congrArg (fun b => Ending.returned (Value.bool b)) ((hR.out.trans ((may_eq HV.out).trans (by simp only [← hk.out, hU.out, hM.out, decide_eq_false hE.out]; first | (simp; done) | (simp; have := hz.out; omega)))).symm), (F0.trans (Frm.drew No _))⟩
    · rw [decide_eq_false hN] at E2
      replace hN := Lib.hid hN
      have B0 := heap_alloc_new w (.cells #[.int .i64 2, .bool false, .int .i64 c.st.1, .int .i64 c.st.2, .string ⟨#[]⟩, .int .i64 c.num.1, .int .i64 c.num.2, .slice ae ne ce, .slice al nl cl, .slice at_ c.seen.length cs] 30 (0, 0))
      have F0 : Frm No w (w.alloc (.cells #[.int .i64 2, .bool false, .int .i64 c.st.1, .int .i64 c.st.2, .string ⟨#[]⟩, .int .i64 c.num.1, .int .i64 c.num.2, .slice ae ne ce, .slice al nl cl, .slice at_ c.seen.length cs] 30 (0, 0))) := (Frm.refl No w).al _
      obtain ⟨q0, q1, q2, q3, q4, q5, q6, q7, q8, q9⟩ := obj10 B0
      go_enter Tryz.func21, Tryz.ntmps21
      go_wp2_with (fail)
      refine (HVM.out _ F0).mono ?_
      rintro e w' ⟨rfl, rfl⟩
      go_wp2_with (fail)
      refine wp_still_drew (by kernel_rfl) (by kernel_rfl) ?_
      repeat still_step
      refine wpStill_nil ?_
      go_wp2_with (fail)
      go_ret
      exact ⟨congrArg (fun b => Ending.returned (Value.bool b)) ((hR.out.trans ((may_eq HV.out).trans (by simp only [← hk.out, hU.out, hM.out, decide_eq_false hN.out]; first | (simp; done) | (simp; have := hz.out; omega)))).symm), (F0.trans (Frm.drew No _))⟩
  · by_cases hN : c.num.1 = 0 ∧ c.num.2 = 0
    · rw [decide_eq_true hN] at E2
      replace hN := Lib.hid hN
      by_cases hS : ne = 0
      · subst hS
        have hS : Hid (c.ents.length = 0) := Lib.hid hne.out.symm
        obtain ⟨X, hX⟩ : ∃ X, Hid (X = elsMay c) := ⟨_, Lib.hid rfl⟩
        have HEl := Lib.hid (fun W (f : Frm No w W) => refElems_ok (HR.out.no f))
        simp only [HCV.out] at HEl
        simp only [← hX.out] at HEl
        have B0 := heap_alloc_new w (.cells #[.int .i64 3, .bool false, .int .i64 c.st.1, .int .i64 c.st.2, .string ⟨#[]⟩, .int .i64 c.num.1, .int .i64 c.num.2, .slice ae 0 ce, .slice al nl cl, .slice at_ c.seen.length cs] 30 (0, 0))
        have F0 : Frm No w (w.alloc (.cells #[.int .i64 3, .bool false, .int .i64 c.st.1, .int .i64 c.st.2, .string ⟨#[]⟩, .int .i64 c.num.1, .int .i64 c.num.2, .slice ae 0 ce, .slice al nl cl, .slice at_ c.seen.length cs] 30 (0, 0))) := (Frm.refl No w).al _
        obtain ⟨q0, q1, q2, q3, q4, q5, q6, q7, q8, q9⟩ := obj10 B0
        go_enter Tryz.func21, Tryz.ntmps21
        go_wp2_with (fail)
        refine (HVM.out _ F0).mono ?_
        rintro e w' ⟨rfl, rfl⟩
        go_wp2_with (fail)
        refine wp_still_drew (by kernel_rfl) (by kernel_rfl) ?_
        repeat still_step
        refine wpStill_nil ?_
        go_wp2_with (fail)
        refine (HEl.out _ (F0.trans (Frm.drew No _))).mono ?_
        rintro e w2 ⟨rfl, f2⟩
        go_wp2_with (fail)
        go_ret
        exact ⟨congrArg (fun b => Ending.returned (Value.bool b)) ((hR.out.trans ((may_eq HV.out).trans (by simp only [← hk.out, hU.out, ← hX.out, decide_eq_true hN.out, decide_eq_true hS.out]; first | (simp; done) | (simp; have := hz.out; omega)))).symm), ((F0.trans (Frm.drew No _)).trans f2)⟩
      · have hS0 : ((ne : Int) == 0) = false := by simp; omega
        have hS1 : ¬ (ne : Int) = 0 := by omega
        replace hS : Hid (¬ c.ents.length = 0) := Lib.hid (by rw [← hne.out]; exact hS)
        have B0 := heap_alloc_new w (.cells #[.int .i64 3, .bool false, .int .i64 c.st.1, .int .i64 c.st.2, .string ⟨#[]⟩, .int .i64 c.num.1, .int .i64 c.num.2, .slice ae ne ce, .slice al nl cl, .slice at_ c.seen.length cs] 30 (0, 0))
        have F0 : Frm No w (w.alloc (.cells #[.int .i64 3, .bool false, .int .i64 c.st.1, .int .i64 c.st.2, .string ⟨#[]⟩, .int .i64 c.num.1, .int .i64 c.num.2, .slice ae ne ce, .slice al nl cl, .slice at_ c.seen.length cs] 30 (0, 0))) := (Frm.refl No w).al _
        obtain ⟨q0, q1, q2, q3, q4, q5, q6, q7, q8, q9⟩ := obj10 B0
        go_enter Tryz.func21, Tryz.ntmps21
        go_wp2_with (fail)
        refine (HVM.out _ F0).mono ?_
        rintro e w' ⟨rfl, rfl⟩
        go_wp2_with (fail)
        refine wp_still_drew (by kernel_rfl) (by kernel_rfl) ?_
        repeat still_step
        refine wpStill_nil ?_
        go_wp2_with (fail)
        go_ret
        exact ⟨congrArg (fun b => Ending.returned (Value.bool b)) ((hR.out.trans ((may_eq HV.out).trans (by simp only [← hk.out, hU.out, hM.out, decide_eq_false hS.out]; first | (simp; done) | (simp; have := hz.out; omega)))).symm), (F0.trans (Frm.drew No _))⟩
    · rw [decide_eq_false hN] at E2
      replace hN := Lib.hid hN
      have B0 := heap_alloc_new w (.cells #[.int .i64 3, .bool false, .int .i64 c.st.1, .int .i64 c.st.2, .string ⟨#[]⟩, .int .i64 c.num.1, .int .i64 c.num.2, .slice ae ne ce, .slice al nl cl, .slice at_ c.seen.length cs] 30 (0, 0))
      have F0 : Frm No w (w.alloc (.cells #[.int .i64 3, .bool false, .int .i64 c.st.1, .int .i64 c.st.2, .string ⟨#[]⟩, .int .i64 c.num.1, .int .i64 c.num.2, .slice ae ne ce, .slice al nl cl, .slice at_ c.seen.length cs] 30 (0, 0))) := (Frm.refl No w).al _
      obtain ⟨q0, q1, q2, q3, q4, q5, q6, q7, q8, q9⟩ := obj10 B0
      go_enter Tryz.func21, Tryz.ntmps21
      go_wp2_with (fail)
      refine (HVM.out _ F0).mono ?_
      rintro e w' ⟨rfl, rfl⟩
      go_wp2_with (fail)
      refine wp_still_drew (by kernel_rfl) (by kernel_rfl) ?_
      repeat still_step
      refine wpStill_nil ?_
      go_wp2_with (fail)
      go_ret
      exact ⟨congrArg (fun b => Ending.returned (Value.bool b)) ((hR.out.trans ((may_eq HV.out).trans (by simp only [← hk.out, hU.out, hM.out, decide_eq_false hN.out]; first | (simp; done) | (simp; have := hz.out; omega)))).symm), (F0.trans (Frm.drew No _))⟩
  · have B0 := heap_alloc_new w (.cells #[.int .i64 k, .bool false, .int .i64 c.st.1, .int .i64 c.st.2, .string ⟨#[]⟩, .int .i64 c.num.1, .int .i64 c.num.2, .slice ae ne ce, .slice al nl cl, .slice at_ c.seen.length cs] 30 (0, 0))
    have F0 : Frm No w (w.alloc (.cells #[.int .i64 k, .bool false, .int .i64 c.st.1, .int .i64 c.st.2, .string ⟨#[]⟩, .int .i64 c.num.1, .int .i64 c.num.2, .slice ae ne ce, .slice al nl cl, .slice at_ c.seen.length cs] 30 (0, 0))) := (Frm.refl No w).al _
    obtain ⟨q0, q1, q2, q3, q4, q5, q6, q7, q8, q9⟩ := obj10 B0
    go_enter Tryz.func21, Tryz.ntmps21
    go_wp2_with (fail)
    refine (HVM.out _ F0).mono ?_
    rintro e w' ⟨rfl, rfl⟩
    go_wp2_with (fail)
    refine wp_still_drew (by kernel_rfl) (by kernel_rfl) ?_
    repeat still_step
    refine wpStill_nil ?_
    go_wp2_with (fail)
    go_ret
    exact ⟨congrArg (fun b => Ending.returned (Value.bool b)) ((hR.out.trans ((may_eq HV.out).trans (by rw [← hk.out, if_neg k0, if_neg k1, if_neg k2, if_neg k3]))).symm), (F0.trans (Frm.drew No _))⟩
end Go.Proofs.YtofikfkgiblblaaGreatDoor
/- The reference: may a cell be? Joined. -/
namespace Go.Proofs.YtofikfkgiblblaaGreatDoor
open Go.RowKit Go.Lib Go.Tt Go.Shelf
set_option maxRecDepth 100000 in
theorem refMay_no {w : World} {c : CellV} {ve vl vs : Value} (h : CellR w c ve vl vs) (n : Int) (hv : vecMay c.seen n = false) :
    Calls Tryz.prog 21 #[cval c ve vl vs, .int .i64 n] w fun e w' => e = .returned (.bool (cellMay c n)) ∧ Frm No w w' := by
  obtain ⟨he, hl, hs⟩ := h
  obtain ⟨ae, ce, rfl⟩ := he.sh
  obtain ⟨al, cl, rfl⟩ := hl.sh
  obtain ⟨at_, cs, rfl⟩ := hs.sh
  have HVM := Lib.hid (fun W (f : Frm No w W) => refVecMay_ok (hs.no f) n)
  rw [hv] at HVM
  have hR : Hid (cellMay c n = false) := Lib.hid (by unfold cellMay; rw [hv, Bool.false_and])
  rw [hR.out]
  unfold cval
  clear he hl hs hv
  have B0 := heap_alloc_new w (.cells #[.int .i64 c.kind, .bool c.set, .int .i64 c.st.1, .int .i64 c.st.2, .string c.value, .int .i64 c.num.1, .int .i64 c.num.2, .slice ae c.ents.length ce, .slice al c.elems.length cl, .slice at_ c.seen.length cs] 30 (0, 0))
  have F0 : Frm No w (w.alloc (.cells #[.int .i64 c.kind, .bool c.set, .int .i64 c.st.1, .int .i64 c.st.2, .string c.value, .int .i64 c.num.1, .int .i64 c.num.2, .slice ae c.ents.length ce, .slice al c.elems.length cl, .slice at_ c.seen.length cs] 30 (0, 0))) := (Frm.refl No w).al _
  obtain ⟨q0, q1, q2, q3, q4, q5, q6, q7, q8, q9⟩ := obj10 B0
  go_enter Tryz.func21, Tryz.ntmps21
  go_wp2_with (fail)
  refine (HVM.out _ F0).mono ?_
  rintro e w' ⟨rfl, rfl⟩
  go_wp2_with (fail)
  go_ret
  exact ⟨rfl, F0⟩
theorem refCellMay_ok {w : World} {c : CellV} {ve vl vs : Value} (h : CellR w c ve vl vs) (n : Int) :
    Calls Tryz.prog 21 #[cval c ve vl vs, .int .i64 n] w fun e w' => e = .returned (.bool (cellMay c n)) ∧ Frm No w w' := by
  rcases hv : vecMay c.seen n with _ | _
  · exact refMay_no h n hv
  rcases hset : c.set with _ | _
  · by_cases hst : c.st.1 = 0 ∧ c.st.2 = 0
    · by_cases hvl : c.value.size = 0
      · exact refMay_d h n hv hset hst hvl
      · exact refMay_c h n hv hset hst hvl
    · exact refMay_b h n hv hset hst
  · exact refMay_a h n hv hset
end Go.Proofs.YtofikfkgiblblaaGreatDoor

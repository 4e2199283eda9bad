/- Merged: Prn2 DocD3 Prn3 RowD Rep1. -/
import Derived.Test.YthaegncocdddfaaGreatDoorCards
import Derived.Test.YthaegncocdddfaaGreatDoorTie
import Derived.WalkKit
import Derived.ProofKit
import Derived.OpenShut
import Derived.Deep.DeepHandedRow
import Derived.Lib.LaidTab
import Derived.Tactics2
import Derived.Defers
import Derived.Laws.Pointers
import Derived.Laws.LoneSync
import Derived.RegionTactic
import Derived.RegionCalls
import Derived.ChangeAlike
import Derived.Test.YthaegncocdddfaaGreatDoorK00
import Derived.Test.YthaegncocdddfaaGreatDoorK08
import Derived.Test.YthaegncocdddfaaGreatDoorK14
import Derived.Test.YthaegncocdddfaaGreatDoorK17
import Derived.Test.YthaegncocdddfaaGreatDoorK19
/- The limits: capped. -/
namespace Go.Proofs.YthaegncocdddfaaGreatDoor
set_option linter.unusedVariables false
set_option linter.unusedSimpArgs false
set_option linter.unusedVariables false
set_option linter.unusedSimpArgs false
open Go.RowKit Go.Lib Go.Tt
theorem capS_eq (deep : Int) (s : Sl) (left : Int) : capS deep s left = if left - 1 < 0 ∨ 6 < s.args.length ∨ 2 < s.ifs.length then (false, left - 1) else if s.sels.length = 0 then (true, left - 1) else cap s.sels (deep + 1) (left - 1) := by
  match s with
  | .mk _ _ _ args ifs [] => unfold capS; rfl
  | .mk _ _ _ args ifs (x :: xs) => unfold capS cap; rfl
theorem capSs_cons (deep : Int) (s : Sl) (ss : List Sl) (left : Int) : capSs deep (s :: ss) left = if (capS deep s left).1 then capSs deep ss (capS deep s left).2 else (false, (capS deep s left).2) := by
  rw [capSs]
theorem capSs_at {deep : Int} {ss : List Sl} {i : Nat} {left : Int} (h : i < ss.length) : capSs deep (ss.drop i) left = if (capS deep ss[i] left).1 then capSs deep (ss.drop (i + 1)) (capS deep ss[i] left).2 else (false, (capS deep ss[i] left).2) := by
  rw [List.drop_eq_getElem_cons h, capSs_cons]
theorem cap_bd (k : Nat) : (∀ (deep : Int) (s : Sl) (left : Int), nS s ≤ k → (capS deep s left).1 = true → 0 ≤ (capS deep s left).2 ∧ (capS deep s left).2 ≤ left) ∧ ∀ (deep : Int) (ss : List Sl) (left : Int), nSs ss ≤ k → 0 ≤ left → (capSs deep ss left).1 = true → 0 ≤ (capSs deep ss left).2 ∧ (capSs deep ss left).2 ≤ left := by
  induction k using Nat.strongRecOn with
  | _ k ih =>
    have hS : ∀ (deep : Int) (s : Sl) (left : Int), nS s ≤ k → (capS deep s left).1 = true → 0 ≤ (capS deep s left).2 ∧ (capS deep s left).2 ≤ left := by
      intro deep s left h h1
      rw [nS_eq] at h
      rw [capS_eq] at h1 ⊢
      split at h1
      · cases h1
      · next hc =>
        rw [if_neg hc]
        split at h1
        · next h0 =>
          rw [if_pos h0]
          simp only
          omega
        · next h0 =>
          rw [if_neg h0]
          unfold cap at h1 ⊢
          split at h1
          · cases h1
          · next hd =>
            rw [if_neg hd]
            have := (ih (nSs s.sels) (by omega)).2 (deep + 1) s.sels (left - 1) (Nat.le_refl _) (by omega) h1
            omega
    refine ⟨hS, fun deep ss => ?_⟩
    induction ss with
    | nil => intro left _ h0 _; simp only [capSs]; omega
    | cons s ss ihs =>
      intro left h h0 h1
      simp only [nSs] at h
      rw [capSs_cons] at h1 ⊢
      split at h1
      · next hc =>
        rw [if_pos hc]
        have h2 := hS deep s left (by omega) hc
        have h3 := ihs _ (by omega) h2.1 h1
        omega
      · cases h1
theorem cap_bd' {deep : Int} {ss : List Sl} {left : Int} (h0 : 0 ≤ left) (h1 : (cap ss deep left).1 = true) : 0 ≤ (cap ss deep left).2 ∧ (cap ss deep left).2 ≤ left := by
  unfold cap at h1 ⊢
  split at h1
  · cases h1
  · next hd =>
    rw [if_neg hd]
    exact (cap_bd (nSs ss)).2 deep ss left (Nat.le_refl _) h0 h1
/-- The contract of capped. -/
def CapC (K : Nat) : Prop := ∀ (w : World) (FF : Nat → Prop) (lb : Nat) (left : Int) (v : Value) (ss : List Sl) (deep : Int), RdSs w FF v ss → w.heap[lb]? = some (.cells #[.int .i64 left] 3 (0, 0)) → (∀ k, FF k → k ≠ lb) → 0 ≤ deep → deep ≤ 5 → 5 ≤ deep + K → 0 ≤ left → left ≤ 64 →
    Calls Tryz.prog 56 #[v, .int .i64 deep, .pointer (some ⟨lb, 0, none⟩)] w fun e w' => e = .returned (.bool (cap ss deep left).1) ∧ w'.heap[lb]? = some (.cells #[.int .i64 (cap ss deep left).2] 3 (0, 0)) ∧ Frm (fun k => k = lb) w w'
set_option maxHeartbeats 4000000 in
set_option maxRecDepth 100000 in
theorem cap_zero : CapC 0 := by
  intro w FF lb left v ss deep hR hB hF hd0 hd1 hd2 hl0 hl1
  have h4 : (4 : Int) < deep := by omega
  have hc : Hid (cap ss deep left = (false, left)) := Lib.hid (if_pos h4)
  rw [hc.out]
  clear hR hF
  go_enter Tryz.func56, Tryz.ntmps56
  go_wp2_with (fail)
  go_ret
  exact ⟨rfl, hB, Frm.refl _ _⟩
set_option maxHeartbeats 8000000 in
set_option maxRecDepth 100000 in
theorem cap_step {K : Nat} (ih : CapC K) : CapC (K + 1) := by
  intro w FF lb left v ss deep hR hB hF hd0 hd1 hd2 hl0 hl1
  by_cases h4 : (4 : Int) < deep
  · have hc : Hid (cap ss deep left = (false, left)) := Lib.hid (if_pos h4)
    rw [hc.out]
    clear hR hF
    go_enter Tryz.func56, Tryz.ntmps56
    go_wp2_with (fail)
    go_ret
    exact ⟨rfl, hB, Frm.refl _ _⟩
  obtain ⟨rs, ⟨hr, hrb⟩, hrA⟩ := hR
  obtain ⟨av, cv, rfl⟩ := hr.sh
  have hrl := hrA.len
  obtain ⟨R, hRR⟩ : ∃ R, Hid (cap ss deep left = R) := ⟨_, Lib.hid rfl⟩
  rw [hRR.out]
  have HC : Hid (capSs deep ss left = R) := Lib.hid (by rw [← hRR.out]; exact (if_neg h4).symm)
  have nb := lt_of_block hB
  have IH := Lib.hid ih
  have HRL := Lib.hid hrl
  have hlen : rs.length ≤ 9223372036854775807 := by
    have h1 := hr.facts.2.1
    have h2 := hr.facts.2.2.1
    unfold maxLen at h2
    omega
  have HR := Lib.hid hr
  have HRB := Lib.hid hrb
  have HRA := Lib.hid hrA
  have HF := Lib.hid hF
  clear hrl hr hrb hrA hF ih hRR
  go_enter Tryz.func56, Tryz.ntmps56
  go_wp2_with (fail)
  go_loopg [13] (rs.length + 1) (fun g iv wr => ∃ (i : Nat) (T : Int), iv = .int .i64 i ∧ g = rs.length - i + 1 ∧ i ≤ rs.length ∧ Hid (capSs deep (ss.drop i) T = R) ∧ wr.heap[lb]? = some (.cells #[.int .i64 T] 3 (0, 0)) ∧ 0 ≤ T ∧ T ≤ 64 ∧ Frm (fun k => k = lb) w wr)
  case atStart => exact ⟨0, left, rfl, by omega, Nat.zero_le _, HC, hB, hl0, hl1, Frm.refl _ _⟩
  case round =>
    clear HC hB nb
    obtain ⟨i, T, rfl, hg, hi, hT, B, ht0, ht1, F⟩ := hrel
    have hG := Lib.hid hg
    clear hg
    have nbr := lt_of_block B
    have zbr := obj_frz B
    have p0 : wr.cell? ⟨lb, 0, none⟩ = some (.int .i64 T) := obj_cell B 0
    by_cases hlt : i < rs.length
    · have hlt' : i < ss.length := by have := HRL.out; omega
      obtain ⟨b, off, rfl, hbl, hc⟩ := HR.out.at hlt
      have hFb : FF b := HRB.out b (by
        obtain ⟨m, hm⟩ : ∃ m, rs.length = m + 1 := ⟨rs.length - 1, by omega⟩
        rw [hm]; rfl)
      have hbt := HF.out b hFb
      have cl : ∀ j u, (eSel.f rs[i])[j]? = some u → wr.cell? ⟨b, off + (i * 6 + j), none⟩ = some u := fun j u hu => (F.cell (p := ⟨b, off + (i * 6 + j), none⟩) hbl hbt).trans (hc j u hu)
      have e3 : wr.cell? ⟨b, off + i * 6 + 3, none⟩ = some (.slice rs[i].a.p rs[i].a.n rs[i].a.c) := cl 3 _ rfl
      have e4 : wr.cell? ⟨b, off + i * 6 + 4, none⟩ = some (.slice rs[i].i.p rs[i].i.n rs[i].i.c) := cl 4 _ rfl
      have e5 : wr.cell? ⟨b, off + i * 6 + 5, none⟩ = some (.slice rs[i].s.p rs[i].s.n rs[i].s.c) := cl 5 _ rfl
      have nbb : b < wr.heap.size := Nat.lt_of_lt_of_le hbl F.size
      have hel := HRA.out.at i hlt' hlt
      obtain ⟨-, ha, hii, hss⟩ := hel.parts
      have hna := ha.1.facts.1
      have hni := hii.1.facts.1
      obtain ⟨rs2, hs2, hs3⟩ := hss
      have hns : rs[i].s.n = ss[i].sels.length := hs2.1.facts.1.trans hs3.len
      have hSS := Lib.hid (⟨rs2, hs2, hs3⟩ : RdSs w FF _ ss[i].sels)
      clear hc cl ha hii hs2 hs3 hel
      obtain ⟨r, hr⟩ : ∃ r, Hid (rs[i] = r) := ⟨_, Lib.hid rfl⟩
      obtain ⟨x, hx⟩ : ∃ x, Hid (ss[i] = x) := ⟨_, Lib.hid rfl⟩
      have hcs := capSs_at (deep := deep) (left := T) hlt'
      rw [hr.out] at e3 e4 e5 hna hni hns hSS
      rw [hx.out] at hna hni hns hSS hcs
      have hcq : Hid (R = if (capS deep x T).1 then capSs deep (ss.drop (i + 1)) (capS deep x T).2 else (false, (capS deep x T).2)) := Lib.hid (hT.out.symm.trans hcs)
      have hce := capS_eq deep x T
      have hta : Hid (r.a.n = x.args.length) := Lib.hid hna
      have hti : Hid (r.i.n = x.ifs.length) := Lib.hid hni
      have hts : Hid (r.s.n = x.sels.length) := Lib.hid hns
      have B2 : (wr.setCell ⟨lb, 0, none⟩ (.int .i64 (T - 1))).heap[lb]? = some (.cells #[.int .i64 (T - 1)] 3 (0, 0)) := by
        have := obj_setCell (i := 0) B (.int .i64 (T - 1))
        exact this
      have F2 : Frm (fun k => k = lb) w (wr.setCell ⟨lb, 0, none⟩ (.int .i64 (T - 1))) := F.sc (b := lb) rfl 0 _
      have hHC := Lib.hid hce
      clear hT hcs hna hni hns hr hx hce
      have bad : Hid ((T - 1 < 0 ∨ 6 < x.args.length ∨ 2 < x.ifs.length) → R = (false, T - 1)) := Lib.hid (fun h => by rw [hcq.out, hHC.out, if_pos h]; rfl)
      by_cases k1 : T - 1 < 0
      · have hRR := Lib.hid (bad.out (.inl k1))
        go_wp2_with (fail)
        go_ret
        rw [hRR.out]
        exact ⟨rfl, B2, F2⟩
      by_cases k2 : (6 : Int) < r.a.n
      · have hRR := Lib.hid (bad.out (.inr (.inl (by have := hta.out; omega))))
        go_wp2_with (fail)
        go_ret
        rw [hRR.out]
        exact ⟨rfl, B2, F2⟩
      by_cases k3 : (2 : Int) < r.i.n
      · have hRR := Lib.hid (bad.out (.inr (.inr (by have := hti.out; omega))))
        go_wp2_with (fail)
        go_ret
        rw [hRR.out]
        exact ⟨rfl, B2, F2⟩
      have hgd : Hid (capS deep x T = if x.sels.length = 0 then (true, T - 1) else cap x.sels (deep + 1) (T - 1)) := Lib.hid (by
        have h1 := hta.out
        have h2 := hti.out
        rw [hHC.out, if_neg (by omega)])
      have RS := RdSs.frm hSS.out F2 fun k _ hk => HF.out k hk
      have HREC := Lib.hid (IH.out _ FF lb (T - 1) _ _ (deep + 1) RS B2 HF.out (by omega) (by omega) (by omega) (by omega) (by omega))
      obtain ⟨Q, hQ⟩ : ∃ Q, Hid (cap x.sels (deep + 1) (T - 1) = Q) := ⟨_, Lib.hid rfl⟩
      have hQb : Hid (Q.1 = true → 0 ≤ Q.2 ∧ Q.2 ≤ T - 1) := Lib.hid (by rw [← hQ.out]; exact cap_bd' (by omega))
      have hQ0 : Hid (x.sels.length = 0 → Q.2 = T - 1) := Lib.hid (fun h => by
        have hn : x.sels = [] := List.eq_nil_of_length_eq_zero h
        rw [← hQ.out, hn]
        unfold cap
        split
        · rfl
        · simp [capSs])
      rw [hQ.out] at HREC hgd
      obtain ⟨q1, q2⟩ := Q
      clear RS bad hQ
      by_cases h0 : x.sels.length = 0
      · have b0 : ¬ (0 : Int) < r.s.n := by have := hts.out; omega
        have hq2 := hQ0.out h0
        have hRR : Hid (capSs deep (ss.drop (i + 1)) (T - 1) = R) := Lib.hid (by rw [hcq.out, hgd.out, if_pos h0]; rfl)
        simp only at hq2
        subst hq2
        clear h0 hgd hcq hHC
        rcases q1 with _ | _
        all_goals
          go_wp2_with (fail)
          refine HREC.out.mono ?_
          rintro e w5 ⟨rfl, B5, f5⟩
          have e5' := (f5.cell (p := ⟨b, off + i * 6 + 5, none⟩) (by simpa using nbb) hbt).trans (show (wr.setCell ⟨lb, 0, none⟩ (.int .i64 (T - 1))).cell? ⟨b, off + i * 6 + 5, none⟩ = some (.slice r.s.p r.s.n r.s.c) from by go_simp)
          go_wp2_with (fail)
          go_roundg (rs.length - (i + 1) + 1)
          case measure => have := hG.out; omega
          case rel => exact ⟨i + 1, T - 1, by go_num, rfl, hlt, hRR, B5, by omega, by omega, F2.trans f5⟩
      · have b0 : (0 : Int) < r.s.n := by have := hts.out; omega
        have hcd : Hid (capS deep x T = (q1, q2)) := Lib.hid (hgd.out.trans (if_neg h0))
        clear h0 hgd hHC hQ0
        rcases q1 with _ | _
        · have hRR : Hid (R = (false, q2)) := Lib.hid (by rw [hcq.out, hcd.out]; rfl)
          clear hcq hcd
          go_wp2_with (fail)
          refine HREC.out.mono ?_
          rintro e w5 ⟨rfl, B5, f5⟩
          have e5' := (f5.cell (p := ⟨b, off + i * 6 + 5, none⟩) (by simpa using nbb) hbt).trans (show (wr.setCell ⟨lb, 0, none⟩ (.int .i64 (T - 1))).cell? ⟨b, off + i * 6 + 5, none⟩ = some (.slice r.s.p r.s.n r.s.c) from by go_simp)
          go_wp2_with (fail)
          go_ret
          rw [hRR.out]
          exact ⟨rfl, B5, F2.trans f5⟩
        · have hRR : Hid (capSs deep (ss.drop (i + 1)) q2 = R) := Lib.hid (by rw [hcq.out, hcd.out]; rfl)
          have hqq := Lib.hid (hQb.out rfl)
          clear hcq hcd
          go_wp2_with (fail)
          refine HREC.out.mono ?_
          rintro e w5 ⟨rfl, B5, f5⟩
          have e5' := (f5.cell (p := ⟨b, off + i * 6 + 5, none⟩) (by simpa using nbb) hbt).trans (show (wr.setCell ⟨lb, 0, none⟩ (.int .i64 (T - 1))).cell? ⟨b, off + i * 6 + 5, none⟩ = some (.slice r.s.p r.s.n r.s.c) from by go_simp)
          go_wp2_with (fail)
          go_roundg (rs.length - (i + 1) + 1)
          case measure => have := hG.out; omega
          case rel =>
            have h1 := hqq.out.1
            have h2 := hqq.out.2
            exact ⟨i + 1, q2, by go_num, rfl, hlt, hRR, B5, h1, by omega, F2.trans f5⟩
    · obtain rfl : i = rs.length := by omega
      have hlast : Hid (R = (true, T)) := Lib.hid (by rw [← hT.out, HRL.out, List.drop_of_length_le (Nat.le_refl _)]; simp [capSs])
      go_wp2_with (fail)
      go_ret
      rw [hlast.out]
      exact ⟨rfl, B, F⟩
theorem cap_all : ∀ K, CapC K
  | 0 => cap_zero
  | K + 1 => cap_step (cap_all K)
end Go.Proofs.YthaegncocdddfaaGreatDoor

/- A whole document that reads. -/
namespace Go.Proofs.YthaegncocdddfaaGreatDoor
set_option linter.unusedVariables false
set_option linter.unusedSimpArgs false
open Go.RowKit Go.Lib Go.Tt
/-- Fragments that read. -/
def RdFgs (w : World) (F : Nat → Prop) : List FgC → List Fg → Prop
  | rs, [] => rs = []
  | rs, f :: fs => ∃ r rt, rs = r :: rt ∧ (r.name = f.name ∧ r.on = f.on) ∧ RdSs w F (.slice r.s.p r.s.n r.s.c) f.sels ∧ RdFgs w F rt fs
theorem RdFgs.frm {w w' : World} {F G : Nat → Prop} (f : Frm G w w') (hd : ∀ k, k < w.heap.size → F k → ¬ G k) : ∀ {fs : List Fg} {rs : List FgC}, RdFgs w F rs fs → RdFgs w' F rs fs
  | [], rs, h => h
  | g :: fs, rs, h => by
    obtain ⟨r, rt, h1, hn, h2, h3⟩ := h
    exact ⟨r, rt, h1, hn, h2.frm f hd, RdFgs.frm f hd h3⟩
theorem RdFgs.mono {w : World} {F G : Nat → Prop} (hs : ∀ k, k < w.heap.size → F k → G k) : ∀ {fs : List Fg} {rs : List FgC}, RdFgs w F rs fs → RdFgs w G rs fs
  | [], rs, h => h
  | g :: fs, rs, h => by
    obtain ⟨r, rt, h1, hn, h2, h3⟩ := h
    exact ⟨r, rt, h1, hn, h2.mono hs, RdFgs.mono hs h3⟩
theorem RdFgs.len {w : World} {F : Nat → Prop} : ∀ {fs : List Fg} {rs : List FgC}, RdFgs w F rs fs → rs.length = fs.length
  | [], rs, h => by have h : rs = [] := h; rw [h]; rfl
  | g :: fs, rs, h => by
    obtain ⟨r, rt, rfl, _, _, h3⟩ := h
    simp [h3.len]
theorem RdFgs.at {w : World} {F : Nat → Prop} : ∀ {fs : List Fg} {rs : List FgC}, RdFgs w F rs fs → ∀ (i : Nat) (h : i < fs.length) (h' : i < rs.length), (rs[i].name = fs[i].name ∧ rs[i].on = fs[i].on) ∧ RdSs w F (.slice rs[i].s.p rs[i].s.n rs[i].s.c) fs[i].sels
  | [], rs, h, i, hi, _ => by simp at hi
  | f :: fs, rs, h, i, hi, hi' => by
    obtain ⟨r, rt, rfl, hn, h2, h3⟩ := h
    cases i with
    | zero => exact ⟨hn, h2⟩
    | succ i => exact h3.at i (by simpa using hi) (by simpa using hi')
/-- A document's cells read as a document. -/
def RdDoc (w : World) (F : Nat → Prop) (v : DocC) (d : Dm) : Prop :=
  v.m = d.mutn ∧ RdB w F eDc (.slice v.d.p v.d.n v.d.c) d.decls ∧ RdSs w F (.slice v.s.p v.s.n v.s.c) d.sels ∧ ∃ rs, RdB w F eFg (.slice v.f.p v.f.n v.f.c) rs ∧ RdFgs w F rs d.frags
theorem RdDoc.frm {w w' : World} {F G : Nat → Prop} {v : DocC} {d : Dm} (h : RdDoc w F v d) (f : Frm G w w') (hd : ∀ k, k < w.heap.size → F k → ¬ G k) : RdDoc w' F v d := by
  obtain ⟨h0, h1, h2, rs, h3, h4⟩ := h
  exact ⟨h0, h1.frm f hd, h2.frm f hd, rs, h3.frm f hd, RdFgs.frm f hd h4⟩
theorem RdDoc.mono {w : World} {F G : Nat → Prop} {v : DocC} {d : Dm} (h : RdDoc w F v d) (hs : ∀ k, k < w.heap.size → F k → G k) : RdDoc w G v d := by
  obtain ⟨h0, h1, h2, rs, h3, h4⟩ := h
  exact ⟨h0, h1.mono hs, h2.mono hs, rs, h3.mono hs, RdFgs.mono hs h4⟩
theorem OwFgs.rd {w : World} : ∀ {fs : List Fg} {rs : List FgC} {F : Nat → Prop}, OwFgs w F rs fs → RdFgs w F rs fs
  | [], rs, F, h => h
  | f :: fs, rs, F, h => by
    obtain ⟨r, rt, G, h1, hG, hn, h2, h3⟩ := h
    exact ⟨r, rt, h1, hn, (h2.rd).mono fun k _ hk => hG k hk, RdFgs.mono (fun k _ hk => hk.1) (OwFgs.rd h3)⟩
theorem OwDoc.rd {w : World} {F : Nat → Prop} {v : DocC} {d : Dm} (h : OwDoc w F v d) : RdDoc w F v d := by
  obtain ⟨h0, D, S, G, C, rs, h1, h2, h3, h4, h5, h6, h7, h8⟩ := h
  exact ⟨h0, Ow.rdB h5 fun k hk => (h1 k hk).1, (h6.rd).mono fun k _ hk => (h2 k hk).1, rs, Ow.rdB h7 fun k hk => (h3 k hk).1, RdFgs.mono (fun k _ hk => h4 k hk) (OwFgs.rd h8)⟩
end Go.Proofs.YthaegncocdddfaaGreatDoor

/- The printer, walked: FormatBool, Itoa, limits. -/
namespace Go.Proofs.YthaegncocdddfaaGreatDoor
set_option linter.unusedVariables false
set_option linter.unusedSimpArgs false
open Go.RowKit Go.Lib Go.Tt Go.Shelf
theorem fmtBool_ok (b : Bool) (w : World) : Calls Tryz.prog 111 #[.bool b] w fun e w' => e = .returned (.string (if b then ⟨#[116, 114, 117, 101]⟩ else ⟨#[102, 97, 108, 115, 101]⟩)) ∧ w = w' := by
  cases b
  all_goals
    go_enter Tryz.func111, Tryz.ntmps111
    go_wp2
    go_ret
    exact ⟨rfl, rfl⟩
/-- The table that strconv.Itoa reads. -/
def Tab (w : World) : Prop := Lib.TabIs Tryz.prog w "internal/strconv.uint64pow10" .u64 Lib.pow10Tab
theorem Tab.frm {w w' : World} (h : Tab w) (f : Frm No w w') : Tab w' := by
  unfold Tab Lib.TabIs World.var? at *
  cases hg : Tryz.prog.globalNamed "internal/strconv.uint64pow10" with
  | none => rw [hg] at h; cases h
  | some g =>
    rw [hg] at h
    simp only [Option.bind_some] at h ⊢
    split at h
    · next hc => rw [f.obj hc id]; exact h
    · cases h
theorem frm_grow (w : World) (k : Nat) (os : Array Obj) : Frm No w (Go.Sort.grow (w.drewN k) os) := by
  refine (Frm.drewN No w k).trans ⟨rfl, rfl, rfl, by simp [Go.Sort.grow], fun j hj _ => by simp only [Go.Sort.grow]; exact Array.getElem?_append_left hj⟩
theorem itoa_ok (n : Int) (h : -9223372036854775808 ≤ n ∧ n ≤ 9223372036854775807) {w : World} (ht : Tab w) :
    Calls Tryz.prog 109 #[.int .i64 n] w fun e w' => e = .returned (.string ⟨(Lib.itoa n).toArray⟩) ∧ Frm No w w' :=
  (Tryz.strconv_Itoa n h.1 h.2 w ht).mono fun e w' ⟨he, k, os, hw⟩ => ⟨he, by rw [hw]; exact frm_grow w k os⟩
end Go.Proofs.YthaegncocdddfaaGreatDoor

/- What every row of this seat's cards uses: the listed tables, a world that holds them. -/
namespace Go.Proofs.YthaegncocdddfaaGreatDoor
set_option linter.unusedVariables false
set_option linter.unusedSimpArgs false
open Go.ChangeShapes Go.WideShapes Go.ChangeAt Go.RowKit Go.Tt
/-- The five variables that every row of this seat lists. -/
abbrev tabs : List (String × DataW Unit) := [("math/bits.deBruijn32tab", Rows.laid_math_bits_deBruijn32tab), ("math/bits.deBruijn64tab", Rows.laid_math_bits_deBruijn64tab), ("internal/strconv.uint64pow10", Rows.laid_internal_strconv_uint64pow10), ("strconv.ErrRange", Rows.laid_strconv_ErrRange), ("strconv.ErrSyntax", Rows.laid_strconv_ErrSyntax)]
theorem own : ownKnob Tryz.prog.godebug = none := by kernel_rfl
theorem laidOut : laidOutB Tryz.prog = true := by kernel_rfl
theorem gPow : Tryz.prog.globalNamed "internal/strconv.uint64pow10" = some 3 := by kernel_rfl
theorem gPowType : (Tryz.prog.globals[3]?).map (·.type) = some 198 := by kernel_rfl
theorem cellsPow : Tryz.prog.cellsOf 198 = 20 := by kernel_rfl
theorem cellsU64 : Tryz.prog.cellsOf 97 = 1 := by kernel_rfl
theorem powIs : (Rows.laid_internal_strconv_uint64pow10 : DataW Unit) = Lib.tabData .u64 Lib.pow10Tab := by kernel_rfl
/-- WHAT THE ROW's LIST GIVES. -/
theorem table {W : World} (h : laidMetH Tryz.prog tabs W) : Tab W := by
  have h : laidMet Tryz.prog tabs W := h
  obtain ⟨ps, ⟨_, _, _, _, _, _, _, _, _, _, ⟨_, _, _, _, _, _, _, _, _, _, ⟨g', t', cs, fuel, p, q, hg', ht', hvar, hd, _, _⟩, _⟩, _⟩, _⟩ := h
  obtain rfl := Option.some.inj (gPow.symm.trans hg')
  obtain rfl := Option.some.inj (gPowType.symm.trans ht')
  rw [powIs] at hd
  unfold Tab Lib.TabIs
  rw [hvar, ← Lib.cells_of_tab Tryz.underlying198 Tryz.underlying97 cellsU64 cellsPow hd]
/-- The cells of a table. -/
def litCells : DataW Unit → Array Value
  | .agg l => (l.map fun | .lit (.int k z) => Value.int k z | _ => .bool false).toArray
  | _ => #[]
def putCells (cs : Array Value) : Obj → Obj
  | .cells _ t frozen => .cells cs t frozen
  | o => o
/-- A WORLD FOR THE WITNESS: the settled one, the variables holding what their initialisers lay. -/
noncomputable def baseWorld (os : Os) : World := World.holding Tryz.prog os ⟨#[.cells #[.string ⟨#[118, 97, 108, 117, 101, 32, 111, 117, 116, 32, 111, 102, 32, 114, 97, 110, 103, 101]⟩] 195, .cells #[.string ⟨#[105, 110, 118, 97, 108, 105, 100, 32, 115, 121, 110, 116, 97, 120]⟩] 195], #[], []⟩
noncomputable def laidWorld (os : Os) : World :=
  { baseWorld os with heap := ((((baseWorld os).heap.modify 3 (putCells (litCells Rows.laid_internal_strconv_uint64pow10))).modify 4 (putCells (litCells Rows.laid_math_bits_deBruijn32tab))).modify 5 (putCells (litCells Rows.laid_math_bits_deBruijn64tab))).modify 2 (putCells #[.iface 193 (.pointer (some ⟨11, 0, none⟩))]) |>.modify 1 (putCells #[.iface 193 (.pointer (some ⟨12, 0, none⟩))]) }
theorem get_parts {α β γ : Type _} (o : Option (α × β × γ)) (h : o.isSome = true) : o = some ((o.get h).1, (o.get h).2.1, (o.get h).2.2) := (Option.some_get h).symm
end Go.Proofs.YthaegncocdddfaaGreatDoor

/- package sync's parts, one goroutine: the atomics, the lock, the calls that sync.Once defers. -/
namespace Go.Proofs.YthaegncocdddfaaGreatDoor
set_option linter.unusedVariables false
set_option linter.unusedSimpArgs false
open Go.RowKit Go.Lib Go.Tt
theorem race_disable (w : World) : (callFunc 157 #[]).run Tryz.prog w = .ok (.value (.tuple #[])) w := run_call_mark0 Tryz.func157 (by kernel_rfl) (by kernel_rfl) (by kernel_rfl) .disable (by kernel_rfl) w
theorem race_enable (w : World) : (callFunc 159 #[]).run Tryz.prog w = .ok (.value (.tuple #[])) w := run_call_mark0 Tryz.func159 (by kernel_rfl) (by kernel_rfl) (by kernel_rfl) .enable (by kernel_rfl) w
theorem race_acquire (a : Addr) (w : World) : (callFunc 160 #[.pointer (some a)]).run Tryz.prog w = .ok (.value (.tuple #[])) w := run_call_marked Tryz.func160 (by kernel_rfl) (by kernel_rfl) (by kernel_rfl) .acquire (by kernel_rfl) a w
theorem race_release (a : Addr) (w : World) : (callFunc 162 #[.pointer (some a)]).run Tryz.prog w = .ok (.value (.tuple #[])) w := run_call_marked Tryz.func162 (by kernel_rfl) (by kernel_rfl) (by kernel_rfl) .releaseMerge (by kernel_rfl) a w
/-- '(*sync/atomic.Bool).Load'. -/
theorem bool_load (a : Addr) (x : Int) (w : World) (hc : w.cell? a = some (.int .u32 x)) :
    Calls Tryz.prog 133 #[.pointer (some a)] w fun e w' => e = .returned (.bool (x != 0)) ∧ w' = w := by
  have hl := run_call_load (P := Tryz.prog) Tryz.func143 (by kernel_rfl) (by kernel_rfl) (by kernel_rfl) .u32 (by kernel_rfl) (w := w) (a := a) (x := x) hc
  go_enter Tryz.func133, Tryz.ntmps133
  go_wp2
  go_ret
  exact ⟨rfl, rfl⟩
/-- '(*sync/atomic.Bool).Store(true)', entered as a deferred call: the cell holds 1. -/
theorem store_deferred (a : Addr) (x : Value) (u : FrameMode) (w : World) (hc : w.cell? a = some x) (hz : w.frozen? a = false) :
    CallsD Tryz.prog 146 #[.pointer (some a), .bool true] u w fun e u' w' => u' = u ∧ (e = .returned (.tuple #[]) ∧ w' = w.drew.setCell a (.int .u32 1)) := by
  have hc' : w.drew.cell? a = some x := by go_simp
  have hz' : w.drew.frozen? a = false := by go_simp
  have hst := run_call_store (P := Tryz.prog) Tryz.func153 (by kernel_rfl) (by kernel_rfl) (by kernel_rfl) (by kernel_rfl) (k := .u32) (y := 1) hc' hz'
  go_enter_d Tryz.func146, Tryz.ntmps146
  go_wp2
  go_region_calls
  all_goals (go_end0; exact ⟨rfl, rfl⟩)
set_option maxRecDepth 100000 in
/-- '(*sync.Mutex).Unlock', entered as a deferred call, the lock held and nobody waiting. -/
theorem unlock_deferred (a : Addr) (u : FrameMode) (w : World) (hc : w.cell? a = some (.int .i32 1)) (hz : w.frozen? a = false) :
    CallsD Tryz.prog 145 #[.pointer (some a)] u w fun e u' w' => u' = u ∧ (e = .returned (.tuple #[]) ∧ w' = w.setCell a (.int .i32 0)) := by
  have hd := race_disable
  have he := race_enable
  have hr := race_release
  have hadd := run_call_add (P := Tryz.prog) Tryz.func163 (by kernel_rfl) (by kernel_rfl) (by kernel_rfl) .i32 (by kernel_rfl) (y := -1) (s := 0) hc hz (by simp [go_sem]; rfl)
  have hcv := run_convert_to_unsafe (P := Tryz.prog) (src := 233) (dst := 150) Tryz.underlying233 Tryz.underlying150 (by kernel_rfl) hc
  go_enter_d Tryz.func145, Tryz.ntmps145
  go_wp2
  go_end0
  go_wp2
set_option maxRecDepth 100000 in
/-- '(*sync.Mutex).Lock', the lock free. -/
theorem lock_free (a : Addr) (w : World) (hc : w.cell? a = some (.int .i32 0)) (hz : w.frozen? a = false) :
    Calls Tryz.prog 144 #[.pointer (some a)] w fun e w' => e = .returned (.tuple #[]) ∧ w' = w.setCell a (.int .i32 1) := by
  have hd := race_disable
  have he := race_enable
  have ha := race_acquire
  have hcas := run_call_cas_hit (P := Tryz.prog) Tryz.func158 (by kernel_rfl) (by kernel_rfl) (by kernel_rfl) .i32 (by kernel_rfl) (y := 1) hc hz
  have hc' : (w.setCell a (.int .i32 1)).cell? a = some (.int .i32 1) := World.cell?_setCell_same w a _ hc
  have hcv := run_convert_to_unsafe (P := Tryz.prog) (src := 233) (dst := 150) Tryz.underlying233 Tryz.underlying150 (by kernel_rfl) hc'
  go_enter Tryz.func144, Tryz.ntmps144
  go_wp2
  first | go_end0 | (simp only [Exit.inBlock, Exit.then]; refine bodyPost_ret (results_none rfl _ _ _) rfl ?_) | refine bodyPost_ret (results_none rfl _ _ _) rfl ?_
  go_wp2
end Go.Proofs.YthaegncocdddfaaGreatDoor

/- Merged: DocN DocW12 Txt. -/
import Derived.Test.YthaegncocdddfaaGreatDoorProg
import Derived.Test.YthaegncocdddfaaGreatDoorK00
import Derived.Test.YthaegncocdddfaaGreatDoorK03
import Derived.Test.YthaegncocdddfaaGreatDoorK16
/- How many selections a reading makes: no more than there were tokens. No program in sight. -/
namespace Go.Tt
set_option linter.unusedVariables false
set_option linter.unusedSimpArgs false
set_option linter.unusedVariables false
set_option linter.unusedSimpArgs false
open Go.RowKit Go.Lib
mutual
def nS : Sl → Nat
  | .mk _ _ _ _ _ sels => 1 + nSs sels
def nSs : List Sl → Nat
  | [] => 0
  | s :: ss => nS s + nSs ss
end
theorem nSs_app : ∀ (a b : List Sl), nSs (a ++ b) = nSs a + nSs b
  | [], b => by simp [nSs]
  | s :: a, b => by
    rw [List.cons_append, nSs, nSs, nSs_app a b]
    omega
def Bd (f : PS → List Sl × PS) : Prop := ∀ p, (f p).2.bad = false → nSs (f p).1 + (f p).2.m ≤ p.m
theorem selL_n {f : PS → List Sl × PS} (hf : ∀ p, (f p).2.le p) (hb : Bd f) (p : PS) (h : (selL f p).2.bad = false) : nS (selL f p).1 + (selL f p).2.m ≤ p.m := by
  unfold selL at h ⊢
  split at h
  · next hk =>
    rw [if_pos hk]
    have h1 := ((ifs_le p.adv.nameS).trans_lt ((nameS_lt _).trans (adv_lt p))).2 h
    unfold sprL
    simp only [nS, nSs]
    omega
  · next hk =>
    rw [if_neg hk]
    have hl := selH_lt p
    unfold selB at h ⊢
    simp only at h ⊢
    split at h
    · next hm =>
      rw [if_pos hm]
      have h1 := hb _ h
      have h0 := nb (hf _).1 h
      have h2 := ((ifs_le _).trans (args_le (selH p).2.2)).2 h0
      have h3 := hl.2 (nb ((ifs_le _).trans (args_le (selH p).2.2)).1 h0)
      simp only [nS]
      omega
    · next hm =>
      rw [if_neg hm]
      have h2 := ((ifs_le _).trans (args_le (selH p).2.2)).2 h
      have h3 := hl.2 (nb ((ifs_le _).trans (args_le (selH p).2.2)).1 h)
      simp only [nS, nSs]
      omega
theorem setGo_n {f : PS → List Sl × PS} (hf : ∀ p, (f p).2.le p) (hb : Bd f) : ∀ (n : Nat) (p : PS) (acc : List Sl), (setGo (selL f) n p acc).2.bad = false → nSs (setGo (selL f) n p acc).1 + (setGo (selL f) n p acc).2.m ≤ nSs acc + p.m
  | 0, p, acc, _ => Nat.le_refl _
  | n + 1, p, acc, h => by
    unfold setGo at h ⊢
    split at h
    · next hk =>
      rw [if_pos hk]
      have h1 := setGo_n hf hb n _ _ h
      have h0 := nb (setGo_le (fun q => (selL_lt hf q).le) n _ _).1 h
      have h2 := selL_n hf hb p h0
      rw [nSs_app] at h1
      simp only [nSs] at h1
      omega
    · next hk =>
      rw [if_neg hk]
      have := (want_lt p (mC 125)).2 h
      simp only
      omega
theorem setL_n : ∀ (n : Nat), Bd (setL n)
  | 0 => fun p _ => by show 0 + p.m ≤ p.m; omega
  | n + 1 => fun p h => by
    have hf := setL_le n
    have hb := setL_n n
    unfold setL at h ⊢
    simp only at h ⊢
    have h1 := setGo_n hf hb _ _ _ h
    have h0 := nb (setGo_le (fun q => (selL_lt hf q).le) _ _ _).1 h
    have h2 := selL_n hf hb _ h0
    have h3 := (want_lt p (mC 123)).2 (nb (selL_lt hf _).1 h0)
    simp only [nSs] at h1
    omega
def nFs : List Fg → Nat
  | [] => 0
  | f :: fs => nSs f.sels + nFs fs
theorem nFs_app : ∀ (a b : List Fg), nFs (a ++ b) = nFs a + nFs b
  | [], b => by simp [nFs]
  | s :: a, b => by
    rw [List.cons_append, nFs, nFs, nFs_app a b]
    omega
theorem allL_n : ∀ (n : Nat) (p : PS) (k : Int) (d : Dm) (B : Nat), (allL n p k d).2.bad = false → nSs d.sels + nFs d.frags + p.m ≤ B → nSs (allL n p k d).1.sels + nFs (allL n p k d).1.frags ≤ B
  | 0, p, k, d, B, _, h => by show nSs d.sels + nFs d.frags ≤ B; omega
  | n + 1, p, k, d, B, hb, h => by
    unfold allL at hb ⊢
    split at hb
    · next hk =>
      rw [if_pos hk]
      show nSs d.sels + nFs d.frags ≤ B
      omega
    · next hk =>
      rw [if_neg hk]
      have mono : ∀ (n : Nat) (q : PS) (k : Int) (d : Dm), q.bad = true → (allL n q k d).2.bad = true := by
        intro n q k d hq
        cases n with
        | zero => exact hq
        | succ n => unfold allL; rw [if_pos (by simp [hq])]; simp [hq]
      have nbd : ∀ (q : PS) (k : Int) (d : Dm), (allL n q k d).2.bad = false → q.bad = false := by
        intro q k d hq
        cases hq' : q.bad with
        | false => rfl
        | true => rw [mono n q k d hq'] at hq; cases hq
      split at hb
      · next hw =>
        rw [if_pos hw]
        simp only at hb ⊢
        have h0 := nbd _ _ _ hb
        refine allL_n n _ _ _ B hb ?_
        simp only
        rw [nFs_app]
        have h1 : nSs (frag1 p).1.sels + (frag1 p).2.m ≤ p.m := by
          have hb' : (frag1 p).2.bad = false := h0
          unfold frag1 at hb' ⊢
          simp only at hb' ⊢
          have h2 := setL_n _ _ hb'
          have h3 := ((nameS_lt _).trans ((known_lt _ _).trans ((nameS_lt _).trans (adv_lt p)))).2 (nb (setL_le _ _).1 hb')
          unfold PS.set
          omega
        simp only [nFs]
        omega
      · next hw =>
        rw [if_neg hw]
        split at hb
        · next hw2 =>
          rw [if_pos hw2]
          simp only at hb ⊢
          have h0 := nbd _ _ _ hb
          refine allL_n n _ _ _ B hb ?_
          simp only
          have h1 : nSs (oper1 p).2.2.1 + (oper1 p).2.2.2.m ≤ p.m := by
            have hb' : (oper1 p).2.2.2.bad = false := h0
            unfold oper1 at hb' ⊢
            simp only at hb' ⊢
            have h2 := setL_n _ _ hb'
            have h4 : (if decide (p.nameS.peek.kind = 0) = true then p.nameS.adv else p.nameS).le p := by
              split
              · exact ((adv_lt _).trans (nameS_lt p)).le
              · exact (nameS_lt p).le
            have h3 := ((decls_le _).trans h4).2 (nb (setL_le _ _).1 hb')
            unfold PS.set
            omega
          omega
        · next hw2 =>
          rw [if_neg hw2]
          simp only at hb ⊢
          have h0 := nbd _ _ _ hb
          refine allL_n n _ _ _ B hb ?_
          simp only
          have h1 : nSs p.set.1 + p.set.2.m ≤ p.m := setL_n _ _ h0
          omega
end Go.Tt

/- How many, how deep: count, walked. -/
namespace Go.Proofs.YthaegncocdddfaaGreatDoor
set_option linter.unusedVariables false
set_option linter.unusedSimpArgs false
open Go.RowKit Go.Lib Go.Tt
def tlC (t : Tly) : Array Value := #[.int .i64 t.deep, .int .i64 t.sels, .bool t.many]
theorem cntS_eq (deep : Int) (s : Sl) (t : Tly) : cntS deep s t = if s.sels.length = 0 then ⟨t.deep, t.sels + 1, t.many || decide (6 < s.args.length) || decide (2 < s.ifs.length)⟩ else cnt s.sels (deep + 1) ⟨t.deep, t.sels + 1, t.many || decide (6 < s.args.length) || decide (2 < s.ifs.length)⟩ := by
  match s with
  | .mk _ _ _ args ifs [] => unfold cntS; rfl
  | .mk _ _ _ args ifs (x :: xs) => unfold cntS; rfl
theorem nS_eq (s : Sl) : nS s = 1 + nSs s.sels := by
  match s with
  | .mk _ _ _ _ _ sels => rfl
theorem nSs_at : ∀ {ss : List Sl} {i : Nat} (h : i < ss.length), nSs (ss.drop i) = nS ss[i] + nSs (ss.drop (i + 1))
  | s :: ss, 0, h => rfl
  | s :: ss, i + 1, h => nSs_at (ss := ss) (i := i) (by simpa using h)
theorem nSs_drop : ∀ (ss : List Sl) (i : Nat), nSs (ss.drop i) ≤ nSs ss
  | ss, 0 => Nat.le_refl _
  | [], i + 1 => Nat.le_refl _
  | s :: ss, i + 1 => by
    have := nSs_drop ss i
    simp only [List.drop_succ_cons, nSs]
    omega
theorem len_nSs : ∀ (ss : List Sl), ss.length ≤ nSs ss
  | [] => Nat.le_refl _
  | s :: ss => by
    have := len_nSs ss
    have h := nS_eq s
    simp only [List.length_cons, nSs]
    omega
theorem cntSs_at {deep : Int} {ss : List Sl} {i : Nat} {t : Tly} (h : i < ss.length) : cntSs deep (ss.drop i) t = cntSs deep (ss.drop (i + 1)) (cntS deep ss[i] t) := by
  rw [List.drop_eq_getElem_cons h]
  rfl
/-- What a selection's cells tell. -/
theorem RdSel.parts {w : World} {F : Nat → Prop} {r : SelC} {s : Sl} (h : RdSel w F r s) : (r.sp = s.sp ∧ r.al = s.al ∧ r.nm = s.nm) ∧ RdB w F eAr (.slice r.a.p r.a.n r.a.c) s.args ∧ RdB w F eFi (.slice r.i.p r.i.n r.i.c) s.ifs ∧ RdSs w F (.slice r.s.p r.s.n r.s.c) s.sels := by
  match s, h with
  | .mk sp al nm args ifs sels, h =>
    unfold RdSel at h
    obtain ⟨h1, h2, h3, rs, h4, h5⟩ := h
    exact ⟨h1, h2, h3, rs, h4, h5⟩
/-- The sums stay small. -/
theorem cnt_le (k : Nat) : (∀ (deep : Int) (s : Sl) (t : Tly), nS s ≤ k → (cntS deep s t).sels = t.sels + nS s) ∧ ∀ (deep : Int) (ss : List Sl) (t : Tly), nSs ss ≤ k → (cntSs deep ss t).sels = t.sels + nSs ss :=
  by
    induction k using Nat.strongRecOn with
    | _ k ih =>
      have hS : ∀ (deep : Int) (s : Sl) (t : Tly), nS s ≤ k → (cntS deep s t).sels = t.sels + nS s := by
        intro deep s t h
        rw [nS_eq] at h
        rw [cntS_eq, nS_eq]
        split
        · next h0 =>
          have : s.sels = [] := List.eq_nil_of_length_eq_zero h0
          rw [this]
          simp [nSs]
        · unfold cnt
          rw [((ih (nSs s.sels) (by omega)).2 (deep + 1) s.sels _ (Nat.le_refl _))]
          simp only
          omega
      refine ⟨hS, fun deep ss => ?_⟩
      induction ss with
      | nil => intro t _; simp [cntSs, nSs]
      | cons s ss ihs =>
        intro t h
        simp only [nSs] at h
        simp only [cntSs, nSs]
        rw [ihs _ (by omega), hS deep s t (by omega)]
        omega
/-- The contract of count, of so many selections. -/
def CntC (K : Nat) : Prop := ∀ (w : World) (F : Nat → Prop) (tb : Nat) (t : Tly) (v : Value) (ss : List Sl) (deep : Int), nSs ss ≤ K → RdSs w F v ss → w.heap[tb]? = some (.cells (tlC t) 74 (0, 0)) → (∀ k, F k → k ≠ tb) → 0 ≤ deep → deep + nSs ss ≤ 1000000 → 0 ≤ t.sels → t.sels + nSs ss ≤ 1000000 →
    Calls Tryz.prog 22 #[.pointer (some ⟨tb, 0, none⟩), v, .int .i64 deep] w fun e w' => e = .returned (.tuple #[]) ∧ w'.heap[tb]? = some (.cells (tlC (cnt ss deep t)) 74 (0, 0)) ∧ Frm (fun k => k = tb) w w'
set_option maxHeartbeats 8000000 in
set_option maxRecDepth 100000 in
theorem cnt_step {K : Nat} (ih : ∀ k, k < K → CntC k) : CntC K := by
  intro w FF tb t v ss deep hK hR hB hF hd0 hd1 ht0 ht1
  obtain ⟨rs, ⟨hr, hrb⟩, hrA⟩ := hR
  obtain ⟨av, cv, rfl⟩ := hr.sh
  have hrl := hrA.len
  have hnl := len_nSs ss
  obtain ⟨R, hRR⟩ : ∃ R, Hid (cnt ss deep t = R) := ⟨_, Lib.hid rfl⟩
  rw [hRR.out]
  have HC : Hid (cntSs deep ss ⟨max t.deep deep, t.sels, t.many⟩ = R) := Lib.hid hRR.out
  have nb := lt_of_block hB
  have zb := obj_frz hB
  have q0 : w.cell? ⟨tb, 0, none⟩ = some (.int .i64 t.deep) := obj_cell hB 0
  have IH := Lib.hid ih
  clear ih hRR
  have HRL := Lib.hid hrl
  have HNL := Lib.hid hnl
  have hlen : rs.length ≤ 1000000 := by omega
  have HR := Lib.hid hr
  have HRB := Lib.hid hrb
  have HRA := Lib.hid hrA
  have HF := Lib.hid hF
  obtain ⟨D, hD⟩ : ∃ D, Hid (max t.deep deep = D) := ⟨_, Lib.hid rfl⟩
  rw [hD.out] at HC
  clear hrl hnl hr hrb hrA hF
  have main : ∀ W, W.heap[tb]? = some (.cells (tlC ⟨D, t.sels, t.many⟩) 74 (0, 0)) → Frm (fun k => k = tb) w W → True := fun _ _ _ => trivial
  clear main
  rcases Int.lt_or_le t.deep deep with hmx | hmx
  all_goals
    have hD1 := hD.out
    first | rw [Int.max_eq_right (by omega)] at hD1 | rw [Int.max_eq_left (by omega)] at hD1
    go_enter Tryz.func22, Tryz.ntmps22
    go_wp2_with (fail)
    have B1 := obj_setCell (i := 0) hB (.int .i64 D)
    have F1 := Frm.setCell (F := fun k => k = tb) w ⟨tb, 0, none⟩ (.int .i64 D) rfl
    go_loopg [19] (rs.length + 1) (fun g iv wr => ∃ (i : Nat) (T : Tly), iv = .int .i64 i ∧ g = rs.length - i + 1 ∧ i ≤ rs.length ∧ Hid (cntSs deep (ss.drop i) T = R) ∧ wr.heap[tb]? = some (.cells (tlC T) 74 (0, 0)) ∧ 0 ≤ T.sels ∧ T.sels + nSs (ss.drop i) ≤ 1000000 ∧ Frm (fun k => k = tb) w wr)
    case atStart => exact ⟨0, ⟨D, t.sels, t.many⟩, rfl, by omega, Nat.zero_le _, HC, B1, ht0, ht1, F1⟩
    case round =>
      clear B1 F1 hB q0 zb nb hD1
      obtain ⟨i, T, rfl, hg, hi, hT, B, hs0, hs1, F⟩ := hrel
      have hG := Lib.hid hg
      clear hg
      have nbr := lt_of_block B
      have zbr := obj_frz B
      have p1 : wr.cell? ⟨tb, 1, none⟩ = some (.int .i64 T.sels) := obj_cell B 1
      have p2 : wr.cell? ⟨tb, 2, none⟩ = some (.bool T.many) := obj_cell B 2
      by_cases hlt : i < rs.length
      · have hlt' : i < ss.length := by have := HRL.out; omega
        obtain ⟨b, off, rfl, hbl, hc⟩ := HR.out.at hlt
        have hFb : FF b := HRB.out b (by
          obtain ⟨m, hm⟩ : ∃ m, rs.length = m + 1 := ⟨rs.length - 1, by omega⟩
          rw [hm]; rfl)
        have hbt := HF.out b hFb
        have cl : ∀ j u, (eSel.f rs[i])[j]? = some u → wr.cell? ⟨b, off + (i * 6 + j), none⟩ = some u := fun j u hu => (F.cell (p := ⟨b, off + (i * 6 + j), none⟩) hbl hbt).trans (hc j u hu)
        have e3 : wr.cell? ⟨b, off + i * 6 + 3, none⟩ = some (.slice rs[i].a.p rs[i].a.n rs[i].a.c) := cl 3 _ rfl
        have e4 : wr.cell? ⟨b, off + i * 6 + 4, none⟩ = some (.slice rs[i].i.p rs[i].i.n rs[i].i.c) := cl 4 _ rfl
        have e5 : wr.cell? ⟨b, off + i * 6 + 5, none⟩ = some (.slice rs[i].s.p rs[i].s.n rs[i].s.c) := cl 5 _ rfl
        have hel := HRA.out.at i hlt' hlt
        obtain ⟨-, ha, hii, hss⟩ := hel.parts
        have hna := ha.1.facts.1
        have hni := hii.1.facts.1
        obtain ⟨rs2, hs2, hs3⟩ := hss
        have hns : rs[i].s.n = ss[i].sels.length := hs2.1.facts.1.trans hs3.len
        have hSS := Lib.hid (⟨rs2, hs2, hs3⟩ : RdSs w FF _ ss[i].sels)
        clear hc cl ha hii hs2 hs3 hel
        obtain ⟨r, hr⟩ : ∃ r, Hid (rs[i] = r) := ⟨_, Lib.hid rfl⟩
        obtain ⟨x, hx⟩ : ∃ x, Hid (ss[i] = x) := ⟨_, Lib.hid rfl⟩
        have hcs := cntSs_at (deep := deep) (t := T) hlt'
        have hna2 := nSs_at hlt'
        have hnd := nSs_drop ss i
        rw [hr.out] at e3 e4 e5 hna hni hns hSS
        rw [hx.out] at hna hni hns hSS hcs hna2
        rw [nS_eq] at hna2
        have hsum := Lib.hid hna2
        have hnx : Hid (nSs x.sels < K) := Lib.hid (by omega)
        have hdx : Hid (deep + 1 + nSs x.sels ≤ 1000000) := Lib.hid (by omega)
        have hcq : Hid (R = cntSs deep (ss.drop (i + 1)) (cntS deep x T)) := Lib.hid (hT.out.symm.trans hcs)
        have hta : Hid (r.a.n = x.args.length) := Lib.hid hna
        have hti : Hid (r.i.n = x.ifs.length) := Lib.hid hni
        have hts : Hid (r.s.n = x.sels.length) := Lib.hid hns
        clear hT hcs hna hni hns hr hx hna2 hnd
        obtain ⟨M, hM⟩ : ∃ M, Hid ((T.many || decide (6 < x.args.length) || decide (2 < x.ifs.length)) = M) := ⟨_, Lib.hid rfl⟩
        have hce : Hid (cntS deep x T = if x.sels.length = 0 then ⟨T.deep, T.sels + 1, M⟩ else cnt x.sels (deep + 1) ⟨T.deep, T.sels + 1, M⟩) := Lib.hid (by rw [cntS_eq, hM.out])
        have B2 : ((wr.setCell ⟨tb, 1, none⟩ (.int .i64 (T.sels + 1))).setCell ⟨tb, 2, none⟩ (.bool M)).heap[tb]? = some (.cells (tlC ⟨T.deep, T.sels + 1, M⟩) 74 (0, 0)) := by
          have := obj_setCell (i := 2) (obj_setCell (i := 1) B (.int .i64 (T.sels + 1))) (.bool M)
          exact this
        have F2 : Frm (fun k => k = tb) w ((wr.setCell ⟨tb, 1, none⟩ (.int .i64 (T.sels + 1))).setCell ⟨tb, 2, none⟩ (.bool M)) := (F.sc (b := tb) rfl 1 _).sc (b := tb) rfl 2 _
        have hT5 : T.sels ≤ 1000000 := by omega
        have hM' : ((T.many = true ∧ M = true) ∨ (T.many = false ∧ (6 : Int) < r.a.n ∧ M = true)) ∨ ((T.many = false ∧ ¬ (6 : Int) < r.a.n ∧ (2 : Int) < r.i.n ∧ M = true) ∨ (T.many = false ∧ ¬ (6 : Int) < r.a.n ∧ ¬ (2 : Int) < r.i.n ∧ M = false)) := by
          have h1 := hM.out
          have h2 := hta.out
          have h3 := hti.out
          rcases hm : T.many with _ | _
          · rw [hm] at h1
            by_cases h6 : 6 < x.args.length
            · exact .inl (.inr ⟨rfl, by omega, by rw [← h1]; simp [h6]⟩)
            · by_cases h7 : 2 < x.ifs.length
              · exact .inr (.inl ⟨rfl, by omega, by omega, by rw [← h1]; simp [h7]⟩)
              · exact .inr (.inr ⟨rfl, by omega, by omega, by rw [← h1]; simp [h6, h7]⟩)
          · rw [hm] at h1
            exact .inl (.inl ⟨rfl, by rw [← h1]; rfl⟩)
        by_cases h0 : x.sels.length = 0
        · have hcr := Lib.hid (hce.out.trans (if_pos h0))
          have b0 : ¬ (0 : Int) < r.s.n := by have := hts.out; omega
          clear h0 hce
          rcases hM' with (⟨m1, rfl⟩ | ⟨m1, m2, rfl⟩) | (⟨m1, m2, m3, rfl⟩ | ⟨m1, m2, m3, rfl⟩)
          all_goals
            rw [m1] at p2
            clear m1
            go_wp2_with (fail)
            go_roundg (rs.length - (i + 1) + 1)
            case measure => have := hG.out; omega
            case rel => exact ⟨i + 1, _, by go_num, rfl, hlt, Lib.hid (by rw [hcq.out, hcr.out]), B2, by show 0 ≤ T.sels + 1; omega, by show T.sels + 1 + _ ≤ _; have := hsum.out; omega, F2⟩
        · have hcr := Lib.hid (hce.out.trans (if_neg h0))
          have b0 : (0 : Int) < r.s.n := by have := hts.out; omega
          have RS := RdSs.frm hSS.out F2 fun k _ hk => HF.out k hk
          have HREC := IH.out _ hnx.out _ FF tb ⟨T.deep, T.sels + 1, M⟩ _ _ (deep + 1) (Nat.le_refl _) RS B2 HF.out (by omega) hdx.out (by show 0 ≤ T.sels + 1; omega) (by show T.sels + 1 + _ ≤ _; have := hsum.out; omega)
          have hcl := (cnt_le (nSs x.sels)).2 (deep + 1) x.sels ⟨max T.deep (deep + 1), T.sels + 1, M⟩ (Nat.le_refl _)
          have HCL := Lib.hid hcl
          have HREC := Lib.hid HREC
          clear h0 hce hcl RS
          rcases hM' with (⟨m1, rfl⟩ | ⟨m1, m2, rfl⟩) | (⟨m1, m2, m3, rfl⟩ | ⟨m1, m2, m3, rfl⟩)
          all_goals
            rw [m1] at p2
            clear m1
            go_wp2_with (fail)
            refine HREC.out.mono ?_
            rintro e w5 ⟨rfl, B5, f5⟩
            go_wp2_with (fail)
            go_roundg (rs.length - (i + 1) + 1)
            case measure => have := hG.out; omega
            case rel =>
              have h1 := HCL.out
              have h2 := hsum.out
              exact ⟨i + 1, _, by go_num, rfl, hlt, Lib.hid (by rw [hcq.out, hcr.out]), B5, by show 0 ≤ (cntSs (deep + 1) x.sels ⟨max T.deep (deep + 1), T.sels + 1, _⟩).sels; rw [h1]; omega, by show (cntSs (deep + 1) x.sels ⟨max T.deep (deep + 1), T.sels + 1, _⟩).sels + _ ≤ _; rw [h1]; omega, F2.trans f5⟩
      · obtain rfl : i = rs.length := by omega
        have hlast : Hid (T = R) := Lib.hid (by rw [← hT.out, HRL.out, List.drop_of_length_le (Nat.le_refl _)]; rfl)
        go_wp2_with (fail)
        go_end0
        exact ⟨rfl, by rw [← hlast.out]; exact B, F⟩
theorem count_all : ∀ K, CntC K := fun K => by
  induction K using Nat.strongRecOn with
  | _ K ih => exact cnt_step ih
end Go.Proofs.YthaegncocdddfaaGreatDoor

/- Texts made of bytes. -/
namespace Go.Proofs.YthaegncocdddfaaGreatDoor
set_option linter.unusedVariables false
set_option linter.unusedSimpArgs false
open Go.RowKit Go.Lib Go.Tt
theorem i_u8 : (Tryz.prog.info? 5).map (fun i => (i.zero, i.size, i.bytes)) = some (some (.int .u8 0), 1, 1) := by kernel_rfl
/-- Bytes as cells. -/
def bcs (l : List UInt8) : List Value := l.map fun b => .int .u8 b.toNat
theorem bcs_length (l : List UInt8) : (bcs l).length = l.length := by simp [bcs]
theorem bcs_app (a b : List UInt8) : bcs (a ++ b) = bcs a ++ bcs b := by simp [bcs]
theorem bcs_str (s : ByteArray) : bcs s.data.toList = byteCells s := rfl
theorem bcs_one (l : List UInt8) : ∀ u ∈ bcs l, u.oneCell' = true := by intro u hu; obtain ⟨b, _, rfl⟩ := List.mem_map.1 hu; rfl

set_option maxRecDepth 100000 in
/-- Bytes that are owned, turned into a text. -/
theorem conv_own {w : World} {B : Nat} {a : Option Addr} {c : Nat} {l : List UInt8} (h : w.ownsRow B 5 1 (.slice a l.length c) l.length (bcs l)) :
    (convert 58 9 (.slice a l.length c)).run Tryz.prog w = .ok (.string ⟨l.toArray⟩) w := by
  rcases own_cases h with ⟨rfl, h0, h1, h2⟩ | ⟨g, rfl, _, _⟩
  · have hl : l = [] := List.eq_nil_of_length_eq_zero h0
    subst hl
    exact run_convert_bytes_nil (P := Tryz.prog) w 58 5 Tryz.underlying58 Tryz.underlying5 0 c 9 Tryz.underlying9
  · have hc : ∀ i, i < l.length → w.cell? ⟨g, 0 + i, none⟩ = some (.int .u8 ((l.map fun b => (b.toNat : Int)).getD i 0)) := fun i hi => by
      rw [Nat.zero_add, h.cellAt i (by omega)]
      simp [bcs, List.getD, hi]
    have := run_convert_bytes_arg (P := Tryz.prog) w 58 5 Tryz.underlying58 Tryz.underlying5 g 0 l.length c (l.map fun b => (b.toNat : Int)) (by simp) hc 9 Tryz.underlying9
    rw [this]
    have e : (l.map ((fun n => UInt8.ofNat n.toNat) ∘ fun b => (b.toNat : Int))) = l := by
      conv => rhs; rw [← List.map_id l]
      exact List.map_congr_left fun b _ => by simp
    simp [strOfNums, e]
theorem bcs_zeros (n : Nat) : bcs (List.replicate n 0) = List.replicate n (.int .u8 0) := by simp [bcs]
theorem conv_zeros {w : World} {a : Option Addr} {n c : Nat} (h : w.ownsRow 0 5 1 (.slice a n c) n (List.replicate n (.int .u8 0))) :
    (convert 58 9 (.slice a n c)).run Tryz.prog w = .ok (.string ⟨(List.replicate n 0).toArray⟩) w := by
  have h' : w.ownsRow 0 5 1 (.slice a (List.replicate n (0 : UInt8)).length c) (List.replicate n (0 : UInt8)).length (bcs (List.replicate n 0)) := by
    rw [bcs_zeros, List.length_replicate]; exact h
  have := conv_own h'
  rw [List.length_replicate] at this
  exact this
theorem grown_no {w w' : World} (h : w.grownBy w' none) : Frm No w w' := (Frm.of_grown h).mono fun k _ hk => by cases hk
end Go.Proofs.YthaegncocdddfaaGreatDoor

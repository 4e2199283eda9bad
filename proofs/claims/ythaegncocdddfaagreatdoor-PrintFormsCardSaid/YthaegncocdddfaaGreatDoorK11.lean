/- Merged: DocW5 DocW6 DocW7. -/
import Derived.Deep.LoopGhost
import Derived.Test.YthaegncocdddfaaGreatDoorK07
import Derived.Test.YthaegncocdddfaaGreatDoorK09
import Derived.Test.YthaegncocdddfaaGreatDoorK10
/- The parser's steps, walked: args (printed by gen_args.py). -/
namespace Go.Proofs.YthaegncocdddfaaGreatDoor
set_option linter.unusedVariables false
set_option linter.unusedSimpArgs false
set_option linter.unusedVariables false
set_option linter.unusedSimpArgs false
open Go.RowKit Go.Lib Go.Tt
/-- How many tokens a parser has left, told by its block. -/
def slen : Option Value → Nat
  | some (.slice _ n _) => n
  | _ => 0
def isT : Option Value → Bool
  | some (.bool b) => b
  | _ => false
def pmOf (w : World) (pb : Nat) : Nat := if isT (w.cell? ⟨pb, 1, none⟩) then 0 else slen (w.cell? ⟨pb, 0, none⟩)
theorem PAt.pm {w : World} {pb : Nat} {p : PS} (h : PAt w pb p) : pmOf w pb = p.m := by
  obtain ⟨a, n, c, hb, hr⟩ := h
  have hn := hr.1.facts.1
  have c0 : w.cell? ⟨pb, 0, none⟩ = some (.slice a n c) := obj_cell hb 0
  have c1 : w.cell? ⟨pb, 1, none⟩ = some (.bool p.bad) := obj_cell hb 1
  unfold pmOf PS.m
  rw [c0, c1, ← hn]
  rfl
theorem frm_pb {w w' : World} {pb M : Nat} {F : Nat → Prop} {α : Type} {e : TypeId} {E : Enc α} {v : Value} {l : List α} (h : Ow w (fun k => M ≤ k) e E v l) (f : Frm (fun k => k = pb) w w') (hM : pb < M) : Ow w' (fun k => M ≤ k) e E v l := h.frm f fun k hk e => by omega
set_option maxHeartbeats 4000000 in
set_option maxRecDepth 100000 in
theorem args_ok {w : World} {pb : Nat} {p : PS} (h : PAt w pb p) (hm : p.m ≤ 2048) :
    Calls Tryz.prog 92 #[.pointer (some ⟨pb, 0, none⟩)] w fun e w' => ∃ a n c, e = .returned (.slice a n c) ∧ Ow w' (fun k => w.heap.size ≤ k) 57 eAr (.slice a n c) p.args.1 ∧ PAt w' pb p.args.2 ∧ Frm (fun k => k = pb) w w' := by
  obtain ⟨R, hR⟩ : ∃ R, Hid (R = p.args) := ⟨_, Lib.hid rfl⟩
  rw [← hR.out]
  have npb := h.lt
  have HM := pmark_ok h (mC 40)
  go_enter Tryz.func92, Tryz.ntmps92
  go_wp2_with (fail)
  refine jumps_of 0 (fun a wr => ∃ (n : Nat) (q : PS) (acc : List Ar) (ao : Option Addr) (no co : Nat) (u4 u5 u6 u7 u8 u9 u10 u11 u12 u13 u14 u15 u16 u17 u18 u19 u20 u21 u22 u23 u24 u25 u26 u27 u28 u29 u30 u31 u32 u33 u34 u35 u36 u37 : Value), a = { tmps := #[.pointer (some ⟨pb, 0, none⟩), undef, .slice none 0 0, .slice ao no co, u4, u5, u6, u7, u8, u9, u10, u11, u12, u13, u14, u15, u16, u17, u18, u19, u20, u21, u22, u23, u24, u25, u26, u27, u28, u29, u30, u31, u32, u33, u34, u35, u36, u37], defers := [] } ∧ Hid (argsL n q acc = R) ∧ q.m < n ∧ acc.length + q.m ≤ 2048 ∧ PAt wr pb q ∧ Ow wr (fun k => w.heap.size ≤ k) 57 eAr (.slice ao no co) acc ∧ Frm (fun k => k = pb) w wr) (fun _ wr => pmOf wr pb) rfl ?first ?pass
  case pass =>
    clear h HM hR hm
    rintro a wr ⟨n, q, acc, ao, no, co, u4, u5, u6, u7, u8, u9, u10, u11, u12, u13, u14, u15, u16, u17, u18, u19, u20, u21, u22, u23, u24, u25, u26, u27, u28, u29, u30, u31, u32, u33, u34, u35, u36, u37, rfl, hA, hqn, hb, P, O, F⟩
    obtain ⟨n, rfl⟩ : ∃ m, n = m + 1 := ⟨n - 1, by omega⟩
    have hst : Hid (R = if (!(arg1 q).2.bad && !(arg1 q).2.mark (mC 41)) = true then argsL n (arg1 q).2 (acc ++ [(arg1 q).1]) else (acc ++ [(arg1 q).1], (arg1 q).2.want (mC 41))) := Lib.hid (by rw [← hA.out]; rfl)
    have hlt := arg1_lt q
    have HL := Lib.hid hlt
    have hpm := P.pm
    have HPM := Lib.hid hpm
    have hv : Hid ((arg1 q).2 = (q.nameS.want (mC 58)).value.2 ∧ (arg1 q).1 = ⟨q.nameT, (q.nameS.want (mC 58)).value.1⟩) := Lib.hid ⟨rfl, rfl⟩
    clear hA hlt hpm
    go_wp2_with (fail)
    refine (pname_ok P).mono ?_
    rintro e w1 ⟨rfl, P1, f1⟩
    have O1 := frm_pb (F := No) O f1 npb
    have F1 := F.trans f1
    have hno := O1.cap.1
    have HN := Lib.hid hno
    have hno' : no ≤ 2048 := by omega
    clear O F f1 hno
    have s1 := F1.size
    go_wp2_with (at_builtin; refine wpList_ap _ rfl (.tmp 9) (.tmp 13) 48 48 rfl 57 _ 48 Tryz.underlying48 i_ar rfl (O1.al _) ((RdS.lit1 _ eAr ⟨q.nameT, ⟨0, 0, noTx⟩⟩ _).src Tryz.underlying48) rfl rfl rfl ?c1 ?c2 ?_)
    case c1 => rw [← HN.out]; unfold maxLen; omega
    case c2 => rw [← HN.out]; omega
    intro a' c' w2 o2 f2
    have O2 : Ow w2 (fun k => w.heap.size ≤ k) 57 eAr (.slice a' (acc.length + 1) c') (acc ++ [⟨q.nameT, ⟨0, 0, noTx⟩⟩]) := o2.mono fun k hk hh => by
      rcases hh with hh | hh
      · exact hh
      · have := hh.1; simp at this; omega
    have P2 : PAt w2 pb q.nameS := (P1.no (Frm.alloc No _ _)).frm f2 (by omega) fun k hk => by omega
    have F2 : Frm (fun k => k = pb) w w2 := (F1.al _).then f2 fun k hk hh => by omega
    clear o2 f2 O1 P1 F1 s1
    go_wp2_with (fail)
    refine (want_ok P2 (mC 58)).mono ?_
    rintro e w3 ⟨rfl, P3, f3⟩
    have O3 := frm_pb (F := No) O2 f3 npb
    have F3 := F2.trans f3
    clear O2 F2 P2 f3
    go_wp2_with (fail)
    have HV := value_ok P3
    unfold vval at HV
    refine HV.mono ?_
    rintro e w4 ⟨rfl, P4, f4⟩
    have O4 := frm_pb (F := No) O3 f4 npb
    have F4 := F3.trans f4
    clear O3 F3 P3 f4
    obtain ⟨g, rfl⟩ : ∃ g, a' = some ⟨g, 0, none⟩ := by
      obtain ⟨g, row, e1, _⟩ := O4.cases (by omega)
      exact ⟨g, e1⟩
    have hn1 : acc.length + 1 ≤ 2049 := by omega
    go_wp2_with (refine wpList_last _ rfl (.tmp 24) (.tmp 22) 55 rfl (⟨q.nameT, (q.nameS.want (mC 58)).value.1⟩ : Ar) O4 (v := .agg #[.int .i64 (q.nameS.want (mC 58)).value.1.kind, .int .i64 (q.nameS.want (mC 58)).value.1.int, .string (q.nameS.want (mC 58)).value.1.text]) (vs := [.int .i64 (q.nameS.want (mC 58)).value.1.kind, .int .i64 (q.nameS.want (mC 58)).value.1.int, .string (q.nameS.want (mC 58)).value.1.text]) (j := 1) rfl (by kernel_rfl) (Nat.le_refl 4) rfl (eVl.one (q.nameS.want (mC 58)).value.1) rfl rfl ?hoff ?_)
    case hoff => rfl
    intro w5 O5 hg f5 z5
    have hr := hv.out.1
    have hx := hv.out.2
    rw [← hx] at O5
    rw [← hr] at P4
    have P5 := P4.frm f5 (by omega) fun k hk => by omega
    have F5 := F4.then f5 fun k hk hh => by omega
    clear P4 F4 O4 f5 z5 hr hx hv
    obtain ⟨r, hr⟩ : ∃ r, Hid ((arg1 q).2 = r) := ⟨_, Lib.hid rfl⟩
    obtain ⟨x, hx⟩ : ∃ x, Hid ((arg1 q).1 = x) := ⟨_, Lib.hid rfl⟩
    rw [hr.out] at P5 hst HL
    rw [hx.out] at O5 hst
    have hq1 : ∀ B, r.bad = B → w5.cell? ⟨pb, 1, none⟩ = some (.bool B) := fun B e => by
      obtain ⟨a, n, c, hb, -⟩ := P5
      rw [← e]; exact obj_cell hb 1
    have nb5 := P5.lt
    rcases hbad : r.bad with _ | _
    · have q1 := hq1 _ hbad
      have HMK := pmark_ok P5 (mC 41)
      have HB := Lib.hid hbad
      have hdec := Lib.hid (HL.out.2 hbad)
      rw [hbad] at hst
      clear hq1 hbad
      rcases hmk : r.mark (mC 41) with _ | _
      · rw [hmk] at HMK hst
        clear hmk
        have hRR : Hid (argsL n r (acc ++ [x]) = R) := Lib.hid (hst.out.trans (if_pos rfl)).symm
        go_wp2_with (fail)
        refine HMK.mono ?_
        rintro e w6 ⟨rfl, f6⟩
        have P6 := P5.no f6
        have O6 := O5.no f6
        have F6 := F5.trans (f6.mono (G := fun k => k = pb) fun _ _ h => h.elim)
        have hp6 := P6.pm
        have HP6 := Lib.hid hp6
        clear P5 O5 F5 HMK hst f6 hp6
        go_wp2_with (fail)
        go_step3
        refine ⟨rfl, ⟨n, r, acc ++ [x], _, _, _, _, _, _, _, _, _, _, _, _, _, _, _, _, _, _, _, _, _, _, _, _, _, _, _, _, _, _, _, _, _, _, _, _, _, rfl, hRR, ?_, ?_, P6, ?_, F6⟩, ?_⟩
        · have := hdec.out; omega
        · have := hdec.out; rw [List.length_append]; simp only [List.length_cons, List.length_nil]; omega
        · exact O6
        · have := hdec.out; rw [HPM.out, HP6.out]; exact this
      · rw [hmk] at HMK hst
        clear hmk
        have hRR : Hid (R = (acc ++ [x], r.want (mC 41))) := Lib.hid (hst.out.trans (if_neg (by decide)))
        go_wp2_with (fail)
        refine HMK.mono ?_
        rintro e w6 ⟨rfl, f6⟩
        have P6 := P5.no f6
        have O6 := O5.no f6
        have F6 := F5.trans (f6.mono (G := fun k => k = pb) fun _ _ h => h.elim)
        clear P5 O5 F5 HMK hst f6
        go_wp2_with (fail)
        refine (want_ok P6 (mC 41)).mono ?_
        rintro e w7 ⟨rfl, P7, f7⟩
        have O7 := frm_pb (F := No) O6 f7 npb
        have F7 := F6.trans f7
        clear P6 O6 F6 f7
        go_wp2_with (fail)
        rw [jump_ret]
        go_ret
        exact ⟨_, _, _, rfl, by rw [hRR.out]; exact O7, by rw [hRR.out]; exact P7, F7⟩
    · have q1 := hq1 _ hbad
      have HB := Lib.hid hbad
      rw [hbad] at hst
      clear hq1 hbad
      have hRR : Hid (R = (acc ++ [x], r.want (mC 41))) := Lib.hid (hst.out.trans (if_neg (by simp)))
      go_wp2_with (fail)
      refine (want_ok P5 (mC 41)).mono ?_
      rintro e w7 ⟨rfl, P7, f7⟩
      have O7 := frm_pb (F := No) O5 f7 npb
      have F7 := F5.trans f7
      clear P5 O5 F5 f7
      go_wp2_with (fail)
      rw [jump_ret]
      go_ret
      exact ⟨_, _, _, rfl, by rw [hRR.out]; exact O7, by rw [hRR.out]; exact P7, F7⟩
  case first =>
    intro pass
    have HPS := Lib.hid pass
    clear pass
    rcases hmk : p.mark (mC 40) with _ | _
    · have hRR : Hid (R = ([], p)) := Lib.hid (hR.out.trans (by unfold PS.args; rw [hmk]; rfl))
      rw [hmk] at HM
      clear hmk
      go_wp2_with (fail)
      refine HM.mono ?_
      rintro e w1 ⟨rfl, f1⟩
      go_wp2_with (fail)
      rw [jump_ret]
      go_ret
      exact ⟨_, _, _, rfl, by rw [hRR.out]; exact Ow.nil _ _ _ _ _, by rw [hRR.out]; exact h.no f1, f1.mono (G := fun k => k = pb) fun _ _ h => h.elim⟩
    · have hRR : Hid (argsL (p.adv.m + 1) p.adv [] = R) := Lib.hid (hR.out.trans (by unfold PS.args; rw [hmk]; rfl)).symm
      rw [hmk] at HM
      clear hmk
      go_wp2_with (fail)
      refine HM.mono ?_
      rintro e w1 ⟨rfl, f1⟩
      go_wp2_with (fail)
      refine (take_ok (h.no f1)).mono ?_
      rintro e w2 ⟨rfl, P2, f2⟩
      have F2 := (f1.mono (G := fun k => k = pb) fun _ _ h => h.elim).trans f2
      go_wp2_with (fail)
      go_step3
      simp only [Exit.then]
      rename_i hk
      have := m_le (adv_lt p).le
      refine hk _ _ (HPS.out _ _ ⟨_, p.adv, [], _, _, _, _, _, _, _, _, _, _, _, _, _, _, _, _, _, _, _, _, _, _, _, _, _, _, _, _, _, _, _, _, _, _, _, _, _, rfl, hRR, Nat.lt_succ_self _, by simp; omega, P2, Ow.nil _ _ _ _ _, F2⟩)
end Go.Proofs.YthaegncocdddfaaGreatDoor

/- The parser's steps, walked: ifs. -/
namespace Go.Proofs.YthaegncocdddfaaGreatDoor
set_option linter.unusedVariables false
set_option linter.unusedSimpArgs false
open Go.RowKit Go.Lib Go.Tt
theorem mark_m {p : PS} {s : ByteArray} (h : p.mark s = true) : 0 < p.m := by
  have hb := mark_nb h
  unfold PS.m
  rw [if_neg (by rw [hb]; decide)]
  cases ht : p.ts with
  | cons t r => simp
  | nil =>
    unfold PS.mark at h
    rw [peek_nil ht] at h
    simp [noTk] at h
theorem lt_m {p q : PS} (h : q.lt p) (hp : 0 < p.m) : q.m + 1 ≤ p.m := by
  cases hq : q.bad with
  | true => rw [m_bad hq]; exact hp
  | false => exact h.2 hq
set_option maxHeartbeats 4000000 in
set_option maxRecDepth 100000 in
theorem ifs_ok {w : World} {pb : Nat} {p : PS} (h : PAt w pb p) (hm : p.m ≤ 2048) :
    Calls Tryz.prog 91 #[.pointer (some ⟨pb, 0, none⟩)] w fun e w' => ∃ a n c, e = .returned (.slice a n c) ∧ Ow w' (fun k => w.heap.size ≤ k) 60 eFi (.slice a n c) p.ifs.1 ∧ PAt w' pb p.ifs.2 ∧ Frm (fun k => k = pb) w w' := by
  obtain ⟨R, hR⟩ : ∃ R, Hid (R = p.ifs) := ⟨_, Lib.hid rfl⟩
  rw [← hR.out]
  have npb := h.lt
  go_enter Tryz.func91, Tryz.ntmps91
  go_wp2_with (fail)
  go_loopg [3] (p.m + 1) (fun g ov wr => ∃ (n : Nat) (q : PS) (acc : List Fi) (ao : Option Addr) (no co : Nat), ov = .slice ao no co ∧ g = n + 1 ∧ Hid (ifsL (n + 1) q acc = R) ∧ q.m < n + 1 ∧ acc.length + q.m ≤ 2049 ∧ PAt wr pb q ∧ Ow wr (fun k => w.heap.size ≤ k) 60 eFi (.slice ao no co) acc ∧ Frm (fun k => k = pb) w wr)
  case atStart => exact ⟨p.m, p, [], none, 0, 0, rfl, rfl, Lib.hid hR.out.symm, Nat.lt_succ_self _, by simp; omega, h, Ow.nil _ _ _ _ _, Frm.refl _ _⟩
  case round =>
    clear h hR hm
    obtain ⟨n, q, acc, ao, no, co, rfl, hg, hA, hqn, hb, P, O, F⟩ := hrel
    have hG := Lib.hid hg
    clear hg
    have hst : Hid (R = if q.mark (mC 64) = true then ifsL n (if1 q).2 (acc ++ [(if1 q).1]) else (acc, q)) := Lib.hid (by rw [← hA.out]; rfl)
    have HMK := pmark_ok P (mC 64)
    clear hA
    rcases hmk : q.mark (mC 64) with _ | _
    · rw [hmk] at HMK hst
      have hRR : Hid (R = (acc, q)) := Lib.hid (hst.out.trans (if_neg (by decide)))
      clear hmk hst
      go_wp2_with (fail)
      refine HMK.mono ?_
      rintro e w1 ⟨rfl, f1⟩
      go_wp2_with (fail)
      go_ret
      exact ⟨_, _, _, rfl, by rw [hRR.out]; exact O.no f1, by rw [hRR.out]; exact P.no f1, F.trans (f1.mono (G := fun k => k = pb) fun _ _ h => h.elim)⟩
    · have hqm := mark_m hmk
      rw [hmk] at HMK hst
      have hRR : Hid (R = ifsL n (if1 q).2 (acc ++ [(if1 q).1])) := Lib.hid (hst.out.trans (if_pos rfl))
      clear hmk hst
      have hlt := lt_m (if1_lt q) hqm
      have HL := Lib.hid hlt
      clear hlt
      obtain ⟨nm, hnm⟩ : ∃ s, Hid (q.adv.nameT = s) := ⟨_, Lib.hid rfl⟩
      obtain ⟨S, hS⟩ : ∃ b, Hid (eqB nm tSkip = b) := ⟨_, Lib.hid rfl⟩
      obtain ⟨I, hI⟩ : ∃ b, Hid (eqB nm tIncl = b) := ⟨_, Lib.hid rfl⟩
      obtain ⟨B, hB⟩ : ∃ b, Hid (q.adv.nameS.bad = b) := ⟨_, Lib.hid rfl⟩
      have s1 : (nm.toList == [115, 107, 105, 112]) = S := (tl_lit _ _).trans hS.out
      have s2 : (nm.toList == [105, 110, 99, 108, 117, 100, 101]) = I := (tl_lit _ _).trans hI.out
      have hif : Hid (if1 q = (⟨S, (((PS.want ⟨q.adv.nameS.ts, B || (!S && !I)⟩ (mC 40)).known tIf).want (mC 58)).value.1⟩, (((PS.want ⟨q.adv.nameS.ts, B || (!S && !I)⟩ (mC 40)).known tIf).want (mC 58)).value.2.want (mC 41))) := Lib.hid (by unfold if1; simp only [hnm.out, hS.out, hI.out, hB.out])
      rw [hif.out] at hRR HL
      clear hif
      go_wp2_with (fail)
      refine HMK.mono ?_
      rintro e w1 ⟨rfl, f1⟩
      have P1 := P.no f1
      have O1 := O.no f1
      have F1 := F.trans (f1.mono (G := fun k => k = pb) fun _ _ h => h.elim)
      clear P O F f1 HMK
      go_wp2_with (fail)
      refine (take_ok P1).mono ?_
      rintro e w2 ⟨rfl, P2, f2⟩
      have O2 := frm_pb (F := No) O1 f2 npb
      have F2 := F1.trans f2
      clear P1 O1 F1 f2
      go_wp2_with (fail)
      refine (pname_ok P2).mono ?_
      rintro e w3 ⟨rfl, P3, f3⟩
      have O3 := frm_pb (F := No) O2 f3 npb
      have F3 := F2.trans f3
      clear P2 O2 F2 f3
      rw [hnm.out]
      obtain ⟨a3, n3, c3, hb3, hr3⟩ := P3
      rw [hB.out] at hb3
      have q1 : w3.cell? ⟨pb, 1, none⟩ = some (.bool B) := obj_cell hb3 1
      have zb := obj_frz hb3
      have nb3 := lt_of_block hb3
      have PB := Lib.hid (PAt.set hb3 hr3)
      have ob : ∀ b, Ow (w3.setCell ⟨pb, 1, none⟩ (.bool b)) (fun k => w.heap.size ≤ k) 60 eFi (.slice ao no co) acc := fun b => O3.st (b := pb) (by omega) 1 _
      have OB := Lib.hid ob
      have FB := Lib.hid (fun b => F3.sc (b := pb) rfl 1 (.bool b))
      clear ob O3 F3 hb3 hr3 hS hI hB hnm
      rcases B with _ | _ <;> rcases S with _ | _ <;> rcases I with _ | _
      all_goals
        simp only [Bool.false_or, Bool.true_or, Bool.not_true, Bool.not_false, Bool.and_true, Bool.and_false] at hRR HL
        go_wp2_with (fail)
        refine (want_ok (PB.out _) (mC 40)).mono ?_
        rintro e w4 ⟨rfl, P4, f4⟩
        have O4 := frm_pb (F := No) (OB.out _) f4 npb
        have F4 := (FB.out _).trans f4
        clear f4 PB OB FB q1 zb
        go_wp2_with (fail)
        refine (known_ok P4 tIf).mono ?_
        rintro e w5 ⟨rfl, P5, f5⟩
        have O5 := frm_pb (F := No) O4 f5 npb
        have F5 := F4.trans f5
        clear f5 P4 O4 F4
        go_wp2_with (fail)
        refine (want_ok P5 (mC 58)).mono ?_
        rintro e w6 ⟨rfl, P6, f6⟩
        have O6 := frm_pb (F := No) O5 f6 npb
        have F6 := F5.trans f6
        clear f6 P5 O5 F5
        go_wp2_with (fail)
        have HV := value_ok P6
        unfold vval at HV
        refine HV.mono ?_
        rintro e w7 ⟨rfl, P7, f7⟩
        have O7 := frm_pb (F := No) O6 f7 npb
        have F7 := F6.trans f7
        clear f7 P6 O6 F6 HV
        have hno := O7.cap.1
        have HN := Lib.hid hno
        have hno' : no ≤ 2049 := by omega
        clear hno
        have sz7 := F7.size
        go_wp2_with (at_builtin; refine wpList_ap _ rfl (.tmp 32) (.tmp 38) 49 49 rfl 60 _ 40 Tryz.underlying49 i_fi rfl (O7.al _) ((RdS.lit1 _ eFi ⟨_, _⟩ _).src Tryz.underlying49) rfl rfl rfl ?c1 ?c2 ?_)
        case c1 => rw [← HN.out]; unfold maxLen; omega
        case c2 => rw [← HN.out]; omega
        intro a' c' w8 o8 f8
        have O8 := o8.mono (G := fun k => w.heap.size ≤ k) fun k hk hh => by
          rcases hh with hh | hh
          · exact hh
          · have := hh.1; simp at this; omega
        have P8 := (P7.no (Frm.alloc No _ _)).frm f8 (by omega) fun k hk => by omega
        have F8 : Frm (fun k => k = pb) w w8 := (F7.al _).then f8 fun k hk hh => by omega
        clear o8 f8 O7 P7 F7 sz7
        go_wp2_with (fail)
        refine (want_ok P8 (mC 41)).mono ?_
        rintro e w9 ⟨rfl, P9, f9⟩
        have O9 := frm_pb (F := No) O8 f9 npb
        have F9 := F8.trans f9
        clear P8 O8 F8 f9
        go_wp2_with (fail)
        go_roundg n
        case measure => have := hG.out; omega
        case rel =>
          have h1 := HL.out
          refine ⟨n - 1, _, _, _, _, _, rfl, by omega, Lib.hid ?_, ?_, ?_, P9, O9, F9⟩
          · rw [show n - 1 + 1 = n by omega]; exact hRR.out.symm
          · omega
          · rw [List.length_append]; simp only [List.length_cons, List.length_nil]; omega
end Go.Proofs.YthaegncocdddfaaGreatDoor

/- The parser's steps, walked: sel, its set by a contract that is handed in. -/
namespace Go.Proofs.YthaegncocdddfaaGreatDoor
set_option linter.unusedVariables false
set_option linter.unusedSimpArgs false
open Go.RowKit Go.Lib Go.Tt
/-- What a call has laid. -/
def Nb (w w' : World) (k : Nat) : Prop := w.heap.size ≤ k ∧ k < w'.heap.size
theorem OwSs.lt {w : World} {F : Nat → Prop} {v : Value} {ss : List Sl} (h : OwSs w F v ss) : ∃ a n c, v = .slice a n c := by
  obtain ⟨G, rs, _, h, _⟩ := h
  obtain ⟨a, c, e⟩ := h.sh
  exact ⟨a, _, c, e⟩
/-- The contract of set, of so much fuel. -/
def SetC (n : Nat) : Prop := ∀ (w : World) (pb : Nat) (q : PS), PAt w pb q → q.m ≤ 2048 → (q.bad = false → q.m < n) → 0 < n →
    Calls Tryz.prog 36 #[.pointer (some ⟨pb, 0, none⟩)] w fun e w' => ∃ a k c, e = .returned (.slice a k c) ∧ OwSs w' (Nb w w') (.slice a k c) (setL n q).1 ∧ PAt w' pb (setL n q).2 ∧ Frm (fun k => k = pb) w w'
theorem sel_own {w : World} {F : Nat → Prop} {a1 a2 : Option Addr} {n1 n2 c1 c2 : Nat} {sp : Bool} {al nm : ByteArray} {args : List Ar} {ifs : List Fi} {A I S : Nat → Prop} {v : Sh} {sels : List Sl}
    (hA : ∀ k, k < w.heap.size → A k → F k ∧ ¬ I k ∧ ¬ S k) (hI : ∀ k, k < w.heap.size → I k → F k ∧ ¬ S k) (hS : ∀ k, S k → F k)
    (h1 : Ow w A 57 eAr (.slice a1 n1 c1) args) (h2 : Ow w I 60 eFi (.slice a2 n2 c2) ifs) (h3 : OwSs w S (.slice v.p v.n v.c) sels) : OwSel w F ⟨sp, al, nm, ⟨a1, n1, c1⟩, ⟨a2, n2, c2⟩, v⟩ (.mk sp al nm args ifs sels) := by
  unfold OwSel
  obtain ⟨G, rs, hG, h4, h5⟩ := h3
  exact ⟨⟨rfl, rfl, rfl⟩, fun k => k < w.heap.size ∧ A k, fun k => k < w.heap.size ∧ I k, S, G, fun k hk => ⟨(hA k hk.1 hk.2).1, fun h => (hA k hk.1 hk.2).2.1 h.2, (hA k hk.1 hk.2).2.2⟩, fun k hk => hI k hk.1 hk.2, hS, hG, h1.mono fun k hk h => ⟨hk, h⟩, h2.mono fun k hk h => ⟨hk, h⟩, rs, h4, h5⟩
theorem none_ow {w : World} {e : TypeId} {α : Type} (E : Enc α) : Ow w (fun _ => False) e E (.slice none 0 0) [] := Ow.nil _ _ _ _ _
set_option maxHeartbeats 4000000 in
set_option maxRecDepth 100000 in
theorem sel_spread {w : World} {pb : Nat} {p : PS} (h : PAt w pb p) (hm : p.m ≤ 2048) (hmk : p.mark tDots = true) :
    Calls Tryz.prog 70 #[.pointer (some ⟨pb, 0, none⟩)] w fun e w' => ∃ r : SelC, e = .returned (.agg r.l.toArray) ∧ OwSel w' (Nb w w') r (sprL p).1 ∧ PAt w' pb (sprL p).2 ∧ Frm (fun k => k = pb) w w' := by
  have npb := h.lt
  have hR : Hid (sprL p = (.mk true noTx p.adv.nameT [] p.adv.nameS.ifs.1 [], p.adv.nameS.ifs.2)) := Lib.hid rfl
  rw [hR.out]
  have HMK := Lib.hid (fun W (f : Frm No w W) => pmark_ok (h.no f) tDots)
  rw [hmk] at HMK
  have h3 := m_le ((nameS_lt _).trans (adv_lt p)).le
  have B0 := heap_alloc_new w (.cells #[.bool false, .string ⟨#[]⟩, .string ⟨#[]⟩, .slice none 0 0, .slice none 0 0, .slice none 0 0] 51 (0, 0))
  have F0 : Frm No w (w.alloc (.cells #[.bool false, .string ⟨#[]⟩, .string ⟨#[]⟩, .slice none 0 0, .slice none 0 0, .slice none 0 0] 51 (0, 0))) := (Frm.refl No w).al _
  have P0 := h.no F0
  have n0 := lt_of_block B0
  clear hR hmk h
  go_enter Tryz.func70, Tryz.ntmps70
  go_wp2_with (fail)
  refine (HMK.out _ F0).mono ?_
  rintro e w1 ⟨rfl, f1⟩
  have B1 := f1.obj B0 id
  have P1 := P0.no f1
  have F1 := (F0.trans f1).mono (G := fun k => k = pb) fun _ _ h => h.elim
  clear HMK B0 P0 F0 f1
  go_wp2_with (fail)
  refine (take_ok P1).mono ?_
  rintro e w2 ⟨rfl, P2, f2⟩
  have B2 := f2.obj B1 (by omega)
  have F2 := F1.trans f2
  clear P1 B1 F1 f2
  go_wp2_with (fail)
  refine (pname_ok P2).mono ?_
  rintro e w3 ⟨rfl, P3, f3⟩
  have B3 := f3.obj B2 (by omega)
  have F3 := F2.trans f3
  clear P2 B2 F2 f3
  go_wp2_with (fail)
  refine (ifs_ok P3 (by omega)).mono ?_
  rintro e w4 ⟨ai, ni, ci, rfl, O4, P4, f4⟩
  have B4 := f4.obj B3 (by omega)
  have F4 := F3.trans f4
  have s3 := F3.size
  have l3 := lt_of_block B3
  clear P3 B3 F3 f4
  go_wp2_with (refine wpList_sto _ rfl (.tmp 2) (.tmp 12) 51 rfl B4 (by kernel_rfl) (by rfl) (eSel.one ⟨true, noTx, p.adv.nameT, ⟨none, 0, 0⟩, ⟨ai, ni, ci⟩, ⟨none, 0, 0⟩⟩) rfl rfl ?_)
  intro w5 B5 f5 z5
  have t0 : w5.cell? ⟨w.heap.size, 0, none⟩ = some (.bool true) := obj_cell B5 0
  have t1 : w5.cell? ⟨w.heap.size, 1, none⟩ = some (.string ⟨#[]⟩) := obj_cell B5 1
  have t2 : w5.cell? ⟨w.heap.size, 2, none⟩ = some (.string p.adv.nameT) := obj_cell B5 2
  have t3 : w5.cell? ⟨w.heap.size, 3, none⟩ = some (.slice none 0 0) := obj_cell B5 3
  have t4 : w5.cell? ⟨w.heap.size, 4, none⟩ = some (.slice ai ni ci) := obj_cell B5 4
  have t5 : w5.cell? ⟨w.heap.size, 5, none⟩ = some (.slice none 0 0) := obj_cell B5 5
  have O5 := O4.frm f5 fun k hk e => by omega
  go_wp2
  refine bodyPost_ret (v := .agg #[.bool true, .string ⟨#[]⟩, .string p.adv.nameT, .slice none 0 0, .slice ai ni ci, .slice none 0 0]) (by simp [results, Tryz.results70, go_sem, *]) rfl ?_
  refine ⟨⟨true, noTx, p.adv.nameT, ⟨none, 0, 0⟩, ⟨ai, ni, ci⟩, ⟨none, 0, 0⟩⟩, rfl, ?_, P4.frm f5 (fun e => by omega) fun k hk e => by omega, F4.then f5 fun k hk e => by omega⟩
  exact sel_own (A := fun _ => False) (S := fun _ => False) (fun k _ h => h.elim) (fun k hk h => ⟨⟨by omega, hk⟩, id⟩) (fun k h => h.elim) (none_ow eAr) O5 (OwSs.nil _ _ _)
end Go.Proofs.YthaegncocdddfaaGreatDoor

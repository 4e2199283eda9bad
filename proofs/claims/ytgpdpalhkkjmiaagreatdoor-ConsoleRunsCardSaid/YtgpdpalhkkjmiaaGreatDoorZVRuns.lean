/- Merged: LcN LcW LcP LcQ LcS LcL LcT LcR RowKRuns. -/
import Derived.Test.YtgpdpalhkkjmiaaGreatDoorV12
import Derived.Test.YtgpdpalhkkjmiaaGreatDoorV22
import Derived.Test.YtgpdpalhkkjmiaaGreatDoorV38
import Derived.Test.YtgpdpalhkkjmiaaGreatDoorV39
/- ConsoleRuns: the law's number, line, words. -/
namespace Go.Proofs.YtgpdpalhkkjmiaaGreatDoor
set_option linter.unusedVariables false
set_option linter.unusedSimpArgs false
set_option linter.unusedVariables false
set_option linter.unusedSimpArgs false
open Go.RowKit Go.Lib Go.Tt Go.Shelf
theorem decFrom_app : ∀ (l : List UInt8) (a : Nat) (b : UInt8), decFrom a (l ++ [b]) = match decFrom a l with | none => none | some n => match digitVal b with | none => none | some d => some (n * 10 + d)
  | [], a, b => by
    rw [List.nil_append]
    unfold decFrom
    cases digitVal b <;> rfl
  | x :: l, a, b => by
    rw [List.cons_append]
    unfold decFrom
    cases digitVal x with
    | none => rfl
    | some d => exact decFrom_app l _ b
theorem digitVal_some {b : UInt8} (h : 48 ≤ b.toNat ∧ b.toNat ≤ 57) : digitVal b = some (b.toNat - 48) := by unfold digitVal; rw [if_pos h]
theorem numL_of {l : List UInt8} {n : Nat} (h : numD (trimPrefix l [45]) = some n) : numL l = some (if hasPrefix l [45] then -(n : Int) else n) := by
  cases l with
  | nil => cases h
  | cons b t =>
    rw [numL_cons]
    unfold trimPrefix at h
    unfold hasPrefix at h ⊢
    by_cases hb : b = 45
    · subst hb
      have e : List.isPrefixOf [(45 : UInt8)] (45 :: t) = true := by simp [List.isPrefixOf]
      rw [e, if_pos rfl] at h
      have h : numD t = some n := h
      rw [e, if_pos (by decide), h]
      rfl
    · have h1 : (b == 45) = false := by simpa using hb
      have e : List.isPrefixOf [(45 : UInt8)] (b :: t) = false := by simp [List.isPrefixOf]; exact fun h => hb h.symm
      rw [e, if_neg (by decide)] at h
      rw [e, h1, if_neg (by decide), h]
      rfl
theorem dash_head {s : ByteArray} (h : 0 < s.size) : dashB s = (s[0] == 45) := by
  have hl : s.data.toList ≠ [] := by
    intro e
    have h2 := size_eq s
    rw [e, List.length_nil] at h2
    omega
  obtain ⟨h1, h2⟩ := head_b hl
  unfold dashB hasPrefix
  cases hc : s.data.toList with
  | nil => exact absurd hc hl
  | cons b t =>
    rw [hc] at h2
    have : b = s[0] := Option.some.inj h2
    rw [← this]
    show ((45 : UInt8) == b && List.isPrefixOf [] t) = (b == 45)
    rw [show List.isPrefixOf ([] : List UInt8) t = true from by cases t <;> rfl, Bool.and_true, Bool.eq_iff_iff, beq_iff_eq, beq_iff_eq]
    exact eq_comm
theorem cut_ext {s : ByteArray} (h : dashB s = true) : s.extract 1 s.size = cutB s := by
  unfold dashB at h
  apply data_inj
  unfold cutB trimPrefix
  rw [extract_data, if_pos h, size_eq]
  show (s.data.toList.drop 1).take _ = (List.toArray (s.data.toList.drop 1)).toList
  rw [List.toList_toArray]
  exact List.take_of_length_le (by rw [List.length_drop]; exact Nat.le_refl _)
theorem cut_same {s : ByteArray} (h : dashB s = false) : cutB s = s := by
  unfold dashB at h
  apply data_inj
  unfold cutB trimPrefix
  rw [if_neg (by rw [h]; decide)]
/-- The digits so far. -/
structure DgW (l : List UInt8) (i x : Nat) : Prop where
  go : decFrom 0 (l.take i) = some x
  all : (l.take i).all dgC = true
  bd : x < 1000000
theorem DgW.nil (l : List UInt8) : DgW l 0 0 := ⟨rfl, rfl, by decide⟩
theorem DgW.step {l : List UInt8} {i x : Nat} (h : DgW l i x) (hi : i < l.length) (h6 : l.length ≤ 6) (hd : 48 ≤ (l[i]).toNat ∧ (l[i]).toNat ≤ 57) : DgW l (i + 1) (10 * x + ((l[i]).toNat - 48)) := by
  have hg : decFrom 0 (l.take (i + 1)) = some (10 * x + ((l[i]).toNat - 48)) := by
    rw [List.take_succ_eq_append_getElem hi, decFrom_app, h.go]
    show (match digitVal l[i] with | none => none | some d => some (x * 10 + d)) = _
    rw [digitVal_some hd, Nat.mul_comm]
  refine ⟨hg, ?_, ?_⟩
  · rw [List.take_succ_eq_append_getElem hi, List.all_append, h.all, List.all_cons]
    have : dgC l[i] = true := by unfold dgC; rw [Bool.and_eq_true, Nat.ble_eq, Nat.ble_eq]; exact hd
    rw [this]; rfl
  · have := dec_bound _ _ _ hg
    rw [List.length_take] at this
    have h2 : 10 ^ min (i + 1) l.length ≤ 10 ^ 6 := Nat.pow_le_pow_right (by omega) (by omega)
    omega
set_option maxHeartbeats 4000000 in
set_option maxRecDepth 100000 in
theorem lawNum_ok (s : ByteArray) (hs : s.size ≤ 9223372036854775807) (w : World) : Calls Tryz.prog 29 #[.string s] w fun e w' => e = .returned (.tuple #[.int .i64 (numR s).1, .bool (numR s).2]) ∧ w = w' := by
  obtain ⟨R, hR⟩ : ∃ R, Hid (R = numR s) := ⟨_, Lib.hid rfl⟩
  rw [← hR.out]
  obtain ⟨neg, hneg⟩ : ∃ b, Hid (b = dashB s) := ⟨_, Lib.hid rfl⟩
  obtain ⟨dg, hdg⟩ : ∃ dg, Hid (dg = cutB s) := ⟨_, Lib.hid rfl⟩
  have hcd : dg.data.toList = trimPrefix s.data.toList [45] := by rw [hdg.out]; unfold cutB; simp
  have HNO : numD dg.data.toList = none → R = (0, false) := fun h => by
    rw [hR.out, numR_no ((numL_cut _).2 (by rw [← hcd]; exact h))]
  have HYES : ∀ n, numD dg.data.toList = some n → R = (if neg then -(n : Int) else n, true) := fun n h => by
    rw [hR.out, numR_yes (numL_of (by rw [← hcd]; exact h)), hneg.out]
    rfl
  have HNO := Lib.hid HNO
  have HYES := Lib.hid HYES
  have hsz : dg.size = dg.data.toList.length := size_eq dg
  have hds : dg.size ≤ s.size := by rw [hdg.out]; exact cutB_size s
  clear hcd
  go_enter Tryz.func29, Tryz.ntmps29
  go_upto_region 1 with fail
  go_cut [4] (fun nv wx => nv = .bool neg ∧ w = wx)
  case first =>
    by_cases h0 : s.size = 0
    · have he : s.toList = [] := by rw [ByteArray.toList_eq]; exact List.eq_nil_of_length_eq_zero (by rw [← size_eq]; exact h0)
      have hf : dashB s = false := by unfold dashB; rw [List.eq_nil_of_length_eq_zero (l := s.data.toList) (by rw [← size_eq]; exact h0)]; rfl
      have h2 : neg = false := by rw [hneg.out]; exact hf
      have H2 := Lib.hid h2
      clear h2 hf h0
      go_wp2_with (fail)
      go_meet
      exact ⟨by rw [H2.out], rfl⟩
    · have hne := ba_pos h0
      have h0' : 0 < s.size := by omega
      have hd := dash_head h0'
      have hb : ((s[0].toNat : Int) == 45) = (s[0] == 45) := by
        rw [Bool.eq_iff_iff, beq_iff_eq, beq_iff_eq]
        exact ⟨fun h => UInt8.toNat.inj (by show s[0].toNat = 45; omega), fun h => by rw [h]; rfl⟩
      rw [← hd, ← hneg.out] at hb
      clear hd h0
      cases hn : neg with
      | true =>
        rw [hn] at hb
        have HNN := Lib.hid hn
        clear hn
        go_wp2_with (fail)
        go_meet
        exact ⟨by rw [HNN.out], rfl⟩
      | false =>
        rw [hn] at hb
        have HNN := Lib.hid hn
        clear hn
        go_wp2_with (fail)
        go_meet
        exact ⟨by rw [HNN.out], rfl⟩
  case rest =>
  obtain ⟨rfl, rfl⟩ := hcut
  go_upto_if 14 with fail
  go_cut [0] (fun sv wx => sv = .string dg ∧ w = wx)
  case first =>
    cases neg with
    | true =>
      have hx : s.extract 1 s.size = dg := by rw [hdg.out]; exact cut_ext hneg.out.symm
      have HX := Lib.hid hx
      have h1s : 1 ≤ s.size := by
        rcases Nat.eq_zero_or_pos s.size with h | h
        · have hf : dashB s = false := by unfold dashB; rw [List.eq_nil_of_length_eq_zero (l := s.data.toList) (by rw [← size_eq]; exact h)]; rfl
          rw [← hneg.out] at hf
          cases hf
        · exact h
      clear hx
      go_wp2_with (fail)
      go_meet
      exact ⟨by rw [← HX.out], rfl⟩
    | false =>
      have h1 : dg = s := by rw [hdg.out]; exact cut_same hneg.out.symm
      have H1 := Lib.hid h1
      clear h1
      go_wp2_with (fail)
      go_meet
      exact ⟨by rw [H1.out], rfl⟩
  case rest =>
    obtain ⟨rfl, rfl⟩ := hcut
    by_cases h0 : dg.size = 0
    · have hr := Lib.hid (HNO.out (numD_no (.inl (List.eq_nil_of_length_eq_zero (by omega)))))
      have he : dg.toList = [] := by rw [ByteArray.toList_eq]; exact List.eq_nil_of_length_eq_zero (by omega)
      clear h0 hsz
      go_wp2_with (fail)
      go_ret2
      rw [hr.out]
      exact ⟨rfl, rfl⟩
    have hne := ba_pos h0
    have HSZ := Lib.hid hsz
    have hnn : dg.data.toList ≠ [] := fun e => h0 (by rw [hsz, e]; rfl)
    clear hsz
    by_cases h6 : 6 < dg.size
    · have hr := Lib.hid (HNO.out (numD_no (.inr (.inl (by rw [← HSZ.out]; omega)))))
      go_wp2_with (fail)
      go_ret2
      rw [hr.out]
      exact ⟨rfl, rfl⟩
    have h6' : dg.size ≤ 6 := by omega
    have HNN := Lib.hid hnn
    clear hnn
    go_wp2_with (fail)
    go_loopg [5, 6] (dg.size + 1) (fun gg xv iv wr => ∃ (i x : Nat), iv = .int .i64 i ∧ xv = .int .i64 x ∧ i ≤ dg.size ∧ gg = dg.size - i + 1 ∧ w = wr ∧ DgW dg.data.toList i x)
    case atStart => exact ⟨0, 0, rfl, rfl, Nat.zero_le _, by omega, rfl, DgW.nil _⟩
    case round =>
      obtain ⟨i, x, rfl, rfl, hi, hg, rfl, D⟩ := hrel
      have hG := Lib.hid hg
      have hx6 := D.bd
      have HD := Lib.hid D
      clear hg D
      by_cases hlt : i < dg.size
      · have hil : i < dg.data.toList.length := by rw [← HSZ.out]; exact hlt
        have hge : dg.data.toList[i] = dg[i] := rfl
        have hb256 : dg[i].toNat < 256 := dg[i].toNat_lt
        by_cases hdd : 48 ≤ dg[i].toNat ∧ dg[i].toNat ≤ 57
        · obtain ⟨hd1, hd2⟩ := hdd
          have HS := Lib.hid (HD.out.step hil (by rw [← HSZ.out]; exact h6') (by rw [hge]; exact ⟨hd1, hd2⟩))
          clear hge
          go_wp2_with (fail)
          go_roundg (dg.size - (i + 1) + 1)
          case measure => have := hG.out; omega
          case rel => exact ⟨i + 1, 10 * x + (dg[i].toNat - 48), by go_num, by congr 1; omega, by omega, rfl, rfl, HS.out⟩
        · have hr := Lib.hid (HNO.out (numD_no (.inr (.inr (by
            rw [← Bool.not_eq_true]
            intro h
            have := List.all_eq_true.1 h _ (List.getElem_mem hil)
            unfold dgC at this
            rw [Bool.and_eq_true, Nat.ble_eq, Nat.ble_eq] at this
            exact hdd this)))))
          clear hge
          by_cases hd1 : dg[i].toNat < 48
          · clear hdd
            go_wp2_with (fail)
            go_ret2
            rw [hr.out]
            exact ⟨rfl, rfl⟩
          · have hd2 : 57 < dg[i].toNat := by omega
            clear hdd
            go_wp2_with (fail)
            go_ret2
            rw [hr.out]
            exact ⟨rfl, rfl⟩
      · have hii : ¬ ((i : Int) < dg.size) := by omega
        have hD := HD.out
        rw [show i = dg.data.toList.length by rw [← HSZ.out]; omega] at hD
        have hnd : numD dg.data.toList = some x := by
          obtain ⟨n, hn⟩ := numD_ok HNN.out (by rw [← HSZ.out]; exact h6') (by have := hD.all; rwa [List.take_length] at this)
          have h1 := hD.go
          rw [List.take_length] at h1
          have h2 := hn
          unfold numD at h2
          split at h2
          · cases h2
          · rw [h1] at h2; rw [hn, h2]
        have hr := Lib.hid (HYES.out x hnd)
        clear hD hnd
        cases neg with
        | true =>
          go_wp2_with (fail)
          go_ret2
          rw [hr.out]
          exact ⟨rfl, rfl⟩
        | false =>
          go_wp2_with (fail)
          go_ret2
          rw [hr.out]
          exact ⟨rfl, rfl⟩
end Go.Proofs.YtgpdpalhkkjmiaaGreatDoor

/- ConsoleRuns: the law's words and line (printed by gen_lcw.py). -/
namespace Go.Proofs.YtgpdpalhkkjmiaaGreatDoor
set_option linter.unusedVariables false
set_option linter.unusedSimpArgs false
open Go.RowKit Go.Lib Go.Tt Go.Shelf
def strsB (o : List (List UInt8)) : List ByteArray := o.map fun v => ⟨v.toArray⟩
theorem strsB_app (a b : List (List UInt8)) : strsB (a ++ b) = strsB a ++ strsB b := by unfold strsB; exact List.map_append
/-- The words so far. -/
def WdW (l : List UInt8) (i a : Nat) (o : List (List UInt8)) : Prop := o.length ≤ i ∧ ((i ≤ l.length ∧ a ≤ i ∧ wordsL l = o ++ wordsG ((l.take i).drop a) (l.drop i)) ∨ (i = l.length + 1 ∧ wordsL l = o))
theorem WdW.nil (l : List UInt8) : WdW l 0 0 [] := ⟨Nat.le_refl _, .inl ⟨Nat.zero_le _, Nat.le_refl _, rfl⟩⟩
theorem WdW.at_ {l : List UInt8} {i a : Nat} {o : List (List UInt8)} (h : WdW l i a o) (hi : i ≤ l.length) : a ≤ i ∧ wordsL l = o ++ wordsG ((l.take i).drop a) (l.drop i) := by
  rcases h.2 with h | h
  · exact h.2
  · omega
theorem WdW.next {l : List UInt8} {i a : Nat} {o : List (List UInt8)} (h : WdW l i a o) (hi : i < l.length) (hb : wsB l[i] = false) : WdW l (i + 1) a o := by
  obtain ⟨h1, h2⟩ := h.at_ (by omega)
  refine ⟨by have := h.1; omega, .inl ⟨hi, by omega, ?_⟩⟩
  rw [h2, List.drop_eq_getElem_cons hi]
  show o ++ (if wsB l[i] then _ else wordsG ((l.take i).drop a ++ [l[i]]) (l.drop (i + 1))) = _
  rw [hb, if_neg (by decide), List.take_succ_eq_append_getElem hi, List.drop_append_of_le_length (by rw [List.length_take]; omega)]
theorem WdW.part {l : List UInt8} {i a : Nat} {o : List (List UInt8)} (h : WdW l i a o) (hi : i ≤ l.length) (he : i = l.length ∨ ∃ h : i < l.length, wsB l[i] = true) : WdW l (i + 1) (i + 1) (o ++ putW ((l.take i).drop a)) := by
  obtain ⟨h1, h2⟩ := h.at_ hi
  have hl : (putW ((l.take i).drop a)).length ≤ 1 := by
    cases (l.take i).drop a with
    | nil => exact Nat.zero_le _
    | cons => exact Nat.le_refl _
  refine ⟨by rw [List.length_append]; have := h.1; omega, ?_⟩
  rcases he with rfl | ⟨hlt, hb⟩
  · refine .inr ⟨rfl, ?_⟩
    rw [h2, List.drop_length]; rfl
  · refine .inl ⟨hlt, Nat.le_refl _, ?_⟩
    rw [h2, List.drop_eq_getElem_cons hlt]
    show o ++ (if wsB l[i] then putW ((l.take i).drop a) ++ wordsG [] (l.drop (i + 1)) else _) = _
    rw [hb, if_pos rfl, ← List.append_assoc, show (l.take (i + 1)).drop (i + 1) = [] from List.drop_of_length_le (by rw [List.length_take]; omega)]
theorem putW_no {l : List UInt8} {i a : Nat} (h : i ≤ a) : putW ((l.take i).drop a) = [] := by
  rw [List.drop_of_length_le (by rw [List.length_take]; omega)]; rfl
theorem putW_yes {l : List UInt8} {i a : Nat} (h : a < i) (hi : i ≤ l.length) : putW ((l.take i).drop a) = [(l.take i).drop a] := putW_ne (by
  intro e
  have := congrArg List.length e
  rw [List.length_drop, List.length_take, List.length_nil] at this
  omega)
theorem ext_cut (s : ByteArray) (a i : Nat) : (⟨((s.data.toList.take i).drop a).toArray⟩ : ByteArray) = s.extract a i := by
  apply data_inj
  rw [extract_data]
  show (List.toArray _).toList = _
  rw [List.toList_toArray, List.drop_take]
set_option maxHeartbeats 8000000 in
set_option maxRecDepth 100000 in
theorem lawWords_ok (s : ByteArray) (hs : s.size ≤ 4611686018427) (w : World) : Calls Tryz.prog 12 #[.string s] w fun e w' => ∃ a n c, e = .returned (.slice a n c) ∧ Ow w' (Nw No w w') 9 eStr (.slice a n c) (wordsB s.data.toList) ∧ Frm No w w' := by
  have HSZ := Lib.hid (size_eq s)
  go_enter Tryz.func12, Tryz.ntmps12
  go_wp2_with (fail)
  go_loopg [3, 4, 5] (s.size + 1 + 1) (fun gg ov av iv wr => ∃ (i a : Nat) (o : List (List UInt8)) (ao : Option Addr) (no co : Nat), iv = .int .i64 i ∧ av = .int .i64 a ∧ ov = .slice ao no co ∧ i ≤ s.size + 1 ∧ gg = s.size + 1 - i + 1 ∧ Frm No w wr ∧ Ow wr (fun k => w.heap.size ≤ k) 9 eStr (.slice ao no co) (strsB o) ∧ WdW s.data.toList i a o)
  case atStart => exact ⟨0, 0, [], none, 0, 0, rfl, rfl, rfl, Nat.zero_le _, by omega, Frm.refl _ _, Ow.nil _ _ _ _ _, WdW.nil _⟩
  case round =>
    obtain ⟨i, a, o, ao, no, co, rfl, rfl, rfl, hi, hg, F, O, D⟩ := hrel
    have hG := Lib.hid hg
    have HD := Lib.hid D
    have HNO := Lib.hid O.cap.1
    have hno : no ≤ s.size + 1 := by rw [O.cap.1]; unfold strsB; rw [List.length_map]; exact Nat.le_trans D.1 hi
    clear hg D
    by_cases hle : i ≤ s.size
    · have hil : i ≤ s.data.toList.length := by rw [← HSZ.out]; exact hle
      have hai := (HD.out.at_ hil).1
      by_cases hlt : i < s.size
      · have hltl : i < s.data.toList.length := by rw [← HSZ.out]; exact hlt
        have hge : s.data.toList[i] = s[i] := rfl
        cases hb : wsB s[i] with
        | false =>
          have HN := Lib.hid (HD.out.next hltl (by rw [hge]; exact hb))
          unfold wsB at hb
          rw [Bool.or_eq_false_iff, beq_eq_false_iff_ne, beq_eq_false_iff_ne] at hb
          have q1 : ((s[i].toNat : Int) != 32) = true := by simp; omega
          have q2 : ((s[i].toNat : Int) != 9) = true := by simp; omega
          clear hb hge
          go_wp2_with (fail)
          go_roundg (s.size + 1 - (i + 1) + 1)
          case measure => have := hG.out; omega
          case rel => exact ⟨i + 1, a, o, ao, no, co, by go_num, rfl, rfl, by omega, rfl, F, O, HN.out⟩
        | true =>
          have HP := Lib.hid (HD.out.part hil (.inr ⟨hltl, by rw [hge]; exact hb⟩))
          unfold wsB at hb
          rw [Bool.or_eq_true, beq_iff_eq, beq_iff_eq] at hb
          have hb2 : s[i].toNat = 32 ∨ (¬ s[i].toNat = 32 ∧ s[i].toNat = 9) := by omega
          clear hge hb
          rcases hb2 with hb2 | hb2
          · have q1 : ((s[i].toNat : Int) != 32) = false := by simp; omega
            clear hb2
            by_cases hat : a < i
            · have HP1 : Hid (WdW s.data.toList (i + 1) (i + 1) (o ++ [(s.data.toList.take i).drop a])) := Lib.hid (by have := HP.out; rwa [putW_yes hat hil] at this)
              clear hil
              go_wp2_with (at_builtin; refine wpList_ap _ rfl (.tmp 31) (.tmp 36) 28 28 rfl 9 _ 16 Tryz.underlying28 i_str rfl (O.al _) ((RdS.litg _ eStr (s.extract a i) _ (g := wr.heap.size) rfl).src Tryz.underlying28) rfl rfl rfl ?c1 ?c2 ?_)
              case c1 => rw [← HNO.out]; unfold maxLen; omega
              case c2 => rw [← HNO.out]; omega
              intro a2 c2 w3 o3 f3
              have F3 : Frm No w w3 := (F.al _).then f3 fun k hk hh => by omega
              have z1 := F.size
              rw [← HNO.out] at o3
              go_wp2_with (fail)
              go_roundg (s.size + 1 - (i + 1) + 1)
              case measure => have := hG.out; omega
              case rel => exact ⟨i + 1, i + 1, o ++ [(s.data.toList.take i).drop a], a2, no + 1, c2, by go_num, by go_num, by rw [← HNO.out], by omega, rfl, F3, by rw [strsB_app]; unfold strsB at o3 ⊢; rw [List.map_cons, List.map_nil, ext_cut]; exact o3.mono fun k _ hh => (by rcases hh with hh | hh; exact hh; have := hh.1; simp at *; omega), HP1.out⟩
            · have HP1 : Hid (WdW s.data.toList (i + 1) (i + 1) o) := Lib.hid (by have := HP.out; rwa [putW_no (by omega), List.append_nil] at this)
              clear hil
              go_wp2_with (fail)
              go_roundg (s.size + 1 - (i + 1) + 1)
              case measure => have := hG.out; omega
              case rel => exact ⟨i + 1, i + 1, o, ao, no, co, by go_num, by go_num, rfl, by omega, rfl, F, O, HP1.out⟩
          · have q1 : ((s[i].toNat : Int) != 32) = true := by simp; omega
            have q2 : ((s[i].toNat : Int) != 9) = false := by simp; omega
            clear hb2
            by_cases hat : a < i
            · have HP1 : Hid (WdW s.data.toList (i + 1) (i + 1) (o ++ [(s.data.toList.take i).drop a])) := Lib.hid (by have := HP.out; rwa [putW_yes hat hil] at this)
              clear hil
              go_wp2_with (at_builtin; refine wpList_ap _ rfl (.tmp 31) (.tmp 36) 28 28 rfl 9 _ 16 Tryz.underlying28 i_str rfl (O.al _) ((RdS.litg _ eStr (s.extract a i) _ (g := wr.heap.size) rfl).src Tryz.underlying28) rfl rfl rfl ?c1 ?c2 ?_)
              case c1 => rw [← HNO.out]; unfold maxLen; omega
              case c2 => rw [← HNO.out]; omega
              intro a2 c2 w3 o3 f3
              have F3 : Frm No w w3 := (F.al _).then f3 fun k hk hh => by omega
              have z1 := F.size
              rw [← HNO.out] at o3
              go_wp2_with (fail)
              go_roundg (s.size + 1 - (i + 1) + 1)
              case measure => have := hG.out; omega
              case rel => exact ⟨i + 1, i + 1, o ++ [(s.data.toList.take i).drop a], a2, no + 1, c2, by go_num, by go_num, by rw [← HNO.out], by omega, rfl, F3, by rw [strsB_app]; unfold strsB at o3 ⊢; rw [List.map_cons, List.map_nil, ext_cut]; exact o3.mono fun k _ hh => (by rcases hh with hh | hh; exact hh; have := hh.1; simp at *; omega), HP1.out⟩
            · have HP1 : Hid (WdW s.data.toList (i + 1) (i + 1) o) := Lib.hid (by have := HP.out; rwa [putW_no (by omega), List.append_nil] at this)
              clear hil
              go_wp2_with (fail)
              go_roundg (s.size + 1 - (i + 1) + 1)
              case measure => have := hG.out; omega
              case rel => exact ⟨i + 1, i + 1, o, ao, no, co, by go_num, by go_num, rfl, by omega, rfl, F, O, HP1.out⟩
      · have HP := Lib.hid (HD.out.part hil (.inl (by rw [← HSZ.out]; omega)))
        by_cases hat : a < i
        · have HP1 : Hid (WdW s.data.toList (i + 1) (i + 1) (o ++ [(s.data.toList.take i).drop a])) := Lib.hid (by have := HP.out; rwa [putW_yes hat hil] at this)
          clear hil
          go_wp2_with (at_builtin; refine wpList_ap _ rfl (.tmp 31) (.tmp 36) 28 28 rfl 9 _ 16 Tryz.underlying28 i_str rfl (O.al _) ((RdS.litg _ eStr (s.extract a i) _ (g := wr.heap.size) rfl).src Tryz.underlying28) rfl rfl rfl ?c1 ?c2 ?_)
          case c1 => rw [← HNO.out]; unfold maxLen; omega
          case c2 => rw [← HNO.out]; omega
          intro a2 c2 w3 o3 f3
          have F3 : Frm No w w3 := (F.al _).then f3 fun k hk hh => by omega
          have z1 := F.size
          rw [← HNO.out] at o3
          go_wp2_with (fail)
          go_roundg (s.size + 1 - (i + 1) + 1)
          case measure => have := hG.out; omega
          case rel => exact ⟨i + 1, i + 1, o ++ [(s.data.toList.take i).drop a], a2, no + 1, c2, by go_num, by go_num, by rw [← HNO.out], by omega, rfl, F3, by rw [strsB_app]; unfold strsB at o3 ⊢; rw [List.map_cons, List.map_nil, ext_cut]; exact o3.mono fun k _ hh => (by rcases hh with hh | hh; exact hh; have := hh.1; simp at *; omega), HP1.out⟩
        · have HP1 : Hid (WdW s.data.toList (i + 1) (i + 1) o) := Lib.hid (by have := HP.out; rwa [putW_no (by omega), List.append_nil] at this)
          clear hil
          go_wp2_with (fail)
          go_roundg (s.size + 1 - (i + 1) + 1)
          case measure => have := hG.out; omega
          case rel => exact ⟨i + 1, i + 1, o, ao, no, co, by go_num, by go_num, rfl, by omega, rfl, F, O, HP1.out⟩
    · have hend : i = s.size + 1 := by omega
      have hw : wordsL s.data.toList = o := by
        rcases HD.out.2 with h | h
        · have := HSZ.out; omega
        · exact h.2
      have HW := Lib.hid hw
      clear hw
      have hgt : ¬ ((i : Int) ≤ s.size) := by omega
      clear hend
      go_wp2_with (fail)
      go_ret
      refine ⟨ao, no, co, rfl, ?_, F⟩
      unfold wordsB
      rw [HW.out]
      exact O.fin (Nat.le_refl _)
set_option maxHeartbeats 4000000 in
set_option maxRecDepth 100000 in
theorem lawLine_ok {w : World} {a : Option Addr} {n c : Nat} {ws : List ByteArray} (h : RdS w eStr (.slice a n c) ws) (hw : wsz ws ≤ 4611686018427) :
    Calls Tryz.prog 37 #[.slice a n c] w fun e w' => e = .returned (.string ⟨(joinT ws [32]).toArray⟩) ∧ w = w' := by
  have hn := h.facts
  have HN := Lib.hid hn.1
  have R1 := Lib.hid h
  have HW := Lib.hid hw
  have hle : n ≤ 4611686018427 := by have := wsz_len ws; omega
  clear h hn hw
  go_enter Tryz.func37, Tryz.ntmps37
  go_wp2_with (fail)
  go_loopg [3, 4] (n + 1) (fun gg sv iv wr => ∃ (k : Nat) (W : ByteArray), iv = .int .i64 k ∧ sv = .string W ∧ k ≤ n ∧ gg = n - k + 1 ∧ w = wr ∧ Hid (W.data.toList = joinT (ws.take k) [32]))
  case atStart => exact ⟨0, ⟨#[]⟩, rfl, rfl, Nat.zero_le _, by omega, rfl, Lib.hid (by rw [List.take_zero, joinT_nil])⟩
  case round =>
    obtain ⟨k, W, rfl, rfl, hk, hg, rfl, hW⟩ := hrel
    have hG := Lib.hid hg
    have hWs : W.size ≤ 4611686018427 := by
      have h1 := join_wsz (ws.take k) [32] (by decide)
      have h2 := wsz_app (ws.take k) (ws.drop k)
      rw [List.take_append_drop] at h2
      have := HW.out
      rw [size_eq, hW.out]; omega
    clear hg
    by_cases hkn : k < n
    · have l2 : k < ws.length := by rw [← HN.out]; exact hkn
      obtain ⟨b2, off2, rfl, hbb2, hc2⟩ := R1.out.at l2
      have e1 : w.cell? ⟨b2, off2 + k, none⟩ = some (.string ws[k]) := by
        have := hc2 0 _ rfl
        rwa [show off2 + (k * eStr.k + 0) = off2 + k from by show off2 + (k * 1 + 0) = off2 + k; omega] at this
      have hwz := wsz_at l2
      have hst : joinT (ws.take (k + 1)) [32] = if k = 0 then (ws[k]).data.toList else joinT (ws.take k) [32] ++ ([32] ++ (ws[k]).data.toList) := by
        rw [List.take_succ_eq_append_getElem l2, joinT_snoc]
        by_cases h0 : k = 0
        · subst h0; rfl
        · rw [if_neg h0, if_neg]
          intro e
          have := congrArg List.length e
          rw [List.length_take, List.length_nil] at this
          omega
      obtain ⟨y, hy⟩ : ∃ y, Hid (y = ws[k]) := ⟨_, Lib.hid rfl⟩
      rw [← hy.out] at e1 hwz hst
      have hys : y.size ≤ 4611686018427 := by have := HW.out; omega
      clear hc2 hwz
      by_cases h0 : k = 0
      · subst h0
        rw [if_pos rfl] at hst
        have HST : Hid ((W ++ y).data.toList = joinT (ws.take (0 + 1)) [32]) := Lib.hid (by
          rw [hst]
          have : W.data.toList = [] := by rw [hW.out, List.take_zero, joinT_nil]
          simp [ByteArray.data_append, this])
        have e2 : w.cell? ⟨b2, off2, none⟩ = some (.string y) := by simpa using e1
        clear hst
        go_wp2_with (fail)
        go_roundg (n - (0 + 1) + 1)
        case measure => have := hG.out; omega
        case rel => exact ⟨1, _, by go_num, rfl, by omega, rfl, rfl, HST⟩
      · rw [if_neg h0] at hst
        have hk0 : (k : Int) > 0 := by omega
        have HST : Hid ((W ++ ⟨#[32]⟩ ++ y).data.toList = joinT (ws.take (k + 1)) [32]) := Lib.hid (by
          rw [hst, ← hW.out]
          simp [ByteArray.data_append])
        clear hst h0
        go_wp2_with (fail)
        go_roundg (n - (k + 1) + 1)
        case measure => have := hG.out; omega
        case rel => exact ⟨k + 1, _, by go_num, rfl, by omega, rfl, rfl, HST⟩
    · have hR : (⟨(joinT ws [32]).toArray⟩ : ByteArray) = W := data_inj (by
        rw [hW.out, List.take_of_length_le (by rw [← HN.out]; omega)])
      have HR := Lib.hid hR
      clear hR
      have hkk : ¬ ((k : Int) < n) := by omega
      go_wp2_with (fail)
      go_ret
      rw [HR.out]
      exact ⟨rfl, rfl⟩
end Go.Proofs.YtgpdpalhkkjmiaaGreatDoor

/- ConsoleRuns: the law's paired, summed; the reference's SumPairs, PairText, Sum. -/
namespace Go.Proofs.YtgpdpalhkkjmiaaGreatDoor
set_option linter.unusedVariables false
set_option linter.unusedSimpArgs false
open Go.RowKit Go.Lib Go.Tt Go.Shelf
theorem add_stepR {ps : List (Int × Int)} (h : PrB ps) {i : Nat} (hi : i < ps.length) {x : Int × Int} (hx : Hid (x = ps[i])) {s t : Int × Int} (hs : Hid (s = sumP (0, 0) (ps.take i))) (ht : Hid (t = sumP (0, 0) (ps.take (i + 1)))) (w : World) :
    Calls Tryz.prog 51 #[.agg #[.int .i64 s.1, .int .i64 s.2], .agg #[.int .i64 x.1, .int .i64 x.2]] w fun e w' => e = .returned (.tuple #[.agg #[.int .i64 t.1, .int .i64 t.2], .int .i64 0]) ∧ Frm No w w' := by
  have hl := h.len
  have h1 := sumP_bd h i (by omega)
  have h2 := sumP_bd h (i + 1) (by omega)
  have h3 := h.el _ (List.getElem_mem hi)
  rw [← hx.out] at h3
  have hst := sumP_step hi hx
  rw [← hs.out] at h1 hst
  rw [← ht.out] at h2 hst
  rw [hst] at h2
  have ha := addPair_in (a := s) (b := x) (by omega) (by omega) (by dsimp only at h2; omega)
  have := refAddPair_ok s x w
  rw [ha] at this
  rw [hst]
  exact this
set_option maxHeartbeats 8000000 in
set_option maxRecDepth 100000 in
theorem refSumPairs_ok {w : World} {a : Option Addr} {n c : Nat} {ps : List (Int × Int)} (h : RdS w eDt (.slice a n c) ps) (hb : PrB ps) {t : Int × Int} (ht : Hid (t = sumP (0, 0) ps)) :
    Calls Tryz.prog 30 #[.slice a n c] w fun e w' => e = .returned (.tuple #[.agg #[.int .i64 t.1, .int .i64 t.2], .int .i64 0]) ∧ Frm No w w' := by
  have hn := h.facts
  have HN := Lib.hid hn.1
  have R1 := Lib.hid h
  have HB := Lib.hid hb
  have hle : n ≤ 65537 := by have := hb.len; omega
  clear h hn hb
  go_enter Tryz.func30, Tryz.ntmps30
  go_wp2_with (fail)
  go_loopg [5] (n + 1) (fun gg iv wr => ∃ (i : Nat) (s : Int × Int), iv = .int .i64 i ∧ i ≤ n ∧ gg = n - i + 1 ∧ Frm No w wr ∧ Hid (s = sumP (0, 0) (ps.take i)) ∧
    wr.heap[w.heap.size]? = some (.cells #[.int .i64 0, .int .i64 0] 65 (0, 0)) ∧ wr.heap[w.heap.size + 1]? = some (.cells #[.int .i64 s.1, .int .i64 s.2] 65 (0, 0)))
  case atStart => exact ⟨0, (0, 0), rfl, Nat.zero_le _, by omega, ((Frm.refl No w).al _).al _, Lib.hid rfl, al_old (heap_alloc_new w _), al_at (by simp)⟩
  case round =>
    obtain ⟨i, s, rfl, hi, hg, F, hs, B, C⟩ := hrel
    have hG := Lib.hid hg
    have nB := lt_of_block B
    have nC := lt_of_block C
    have q0 : wr.cell? ⟨w.heap.size + 1, 0, none⟩ = some (.int .i64 s.1) := obj_cell C 0
    have q1 : wr.cell? ⟨w.heap.size + 1, 1, none⟩ = some (.int .i64 s.2) := obj_cell C 1
    clear hg
    by_cases hlt : i < n
    · have l1 : i < ps.length := by rw [← HN.out]; exact hlt
      obtain ⟨b, off, rfl, hbb, hc⟩ := (R1.out.no F).at l1
      have e0 : wr.cell? ⟨b, off + i * 2, none⟩ = some (.int .i64 ps[i].1) := hc 0 _ rfl
      have e1 : wr.cell? ⟨b, off + i * 2 + 1, none⟩ = some (.int .i64 ps[i].2) := hc 1 _ rfl
      clear hc
      obtain ⟨x, hx⟩ : ∃ x, Hid (x = ps[i]) := ⟨_, Lib.hid rfl⟩
      rw [← hx.out] at e0 e1
      obtain ⟨s', hs'⟩ : ∃ s', Hid (s' = sumP (0, 0) (ps.take (i + 1))) := ⟨_, Lib.hid rfl⟩
      have HA := Lib.hid (add_stepR HB.out l1 hx hs hs')
      go_upto_region 5 with fail
      go_cut [6, 7] (fun dv ev wx => ∃ g, dv = .pointer (some ⟨g, 0, none⟩) ∧ ev = .int .i64 0 ∧ Frm No wr wx ∧ wx.heap[g]? = some (.cells #[.int .i64 s'.1, .int .i64 s'.2] 65 (0, 0)) ∧ wr.heap.size ≤ g)
      case first =>
        refine wp_region_fork (.seg [0, 1, 2, 3, 4] [] (.fork 5 [] (.seg [6, 7, 8, 9] [] (.seg [10] [] (.seg [11] [] .nil))) 9 [4, 0] (.seg [5] [] (.seg [6, 7, 8, 10] [] (.seg [11] [] .nil))))) 29 (by kernel_rfl) (by kernel_rfl) (by simp) ?_
        intro N hN
        simp only [wpST, wpSg, List.map_cons, List.map_nil, List.getD_cons_zero, List.getD_cons_succ]
        go_wp2_with (fail)
        refine ⟨?_, ?_⟩
        · go_wp2_with (fail)
          refine (HA.out _).mono ?_
          rintro e w1 ⟨rfl, f1⟩
          go_wp2_with (fail)
          go_meet
          exact ⟨_, rfl, rfl, ((Frm.drew No wr).trans f1).al _, heap_alloc_new w1 _, f1.size⟩
        · go_wp2_with (fail)
          refine ⟨again_cons (again_of rfl rfl ?_) (again_cons (again_of rfl rfl ?_) again_nil), ?_⟩
          · go_simp
          · go_simp
          go_wp2_with (fail)
          refine (HA.out _).mono ?_
          rintro e w1 ⟨rfl, f1⟩
          have T1 := f1.obj (heap_alloc_new wr (.cells #[.int .i64 0, .int .i64 0] 65 (0, 0))) id
          go_wp2_with (refine wpList_sto (vs := [Value.int .i64 s'.1, .int .i64 s'.2]) _ rfl (.tmp 6) (.tmp 21) 65 rfl T1 (by kernel_rfl) (by rfl) (two_one _ _) rfl rfl ?_)
          intro w2 T2 f2 z2
          go_wp2_with (fail)
          go_meet
          exact ⟨_, rfl, rfl, ((((Frm.refl No wr).al _).trans (Frm.drew No _)).trans f1).then f2 fun k hk h => by omega, T2, Nat.le_refl _⟩
      case rest =>
        obtain ⟨g, rfl, rfl, f, T, hgw⟩ := hcut
        have B2 := f.obj B id
        have C2 := f.obj C id
        have p0 : wc.cell? ⟨g, 0, none⟩ = some (.int .i64 s'.1) := obj_cell T 0
        have p1 : wc.cell? ⟨g, 1, none⟩ = some (.int .i64 s'.2) := obj_cell T 1
        have nT := lt_of_block T
        clear q0 q1 e0 e1
        go_wp2_with (refine wpList_sto (vs := [Value.int .i64 s'.1, .int .i64 s'.2]) _ rfl (.tmp 4) (.tmp 27) 65 rfl C2 (by kernel_rfl) (by rfl) (two_one _ _) rfl rfl ?_)
        intro w3 C3 f3 z3
        have B3 := f3.obj B2 (by omega)
        go_wp2_with (fail)
        go_roundg (n - (i + 1) + 1)
        case measure => have := hG.out; omega
        case rel => exact ⟨i + 1, s', by go_num, by omega, rfl, (F.trans f).then f3 fun k hk h => by omega, hs', B3, C3⟩
    · have hii : ¬ ((i : Int) < n) := by omega
      have z0 := obj_frz B
      have htt : s = t := by rw [hs.out, ht.out, List.take_of_length_le (by rw [← HN.out]; omega)]
      subst htt
      go_wp2_with (refine wpList_sto (vs := [Value.int .i64 s.1, .int .i64 s.2]) _ rfl (.tmp 2) (.tmp 28) 65 rfl B (by kernel_rfl) (by rfl) (two_one _ _) rfl rfl ?_)
      intro w2 B2 f2 z2
      have p0 : w2.cell? ⟨w.heap.size, 0, none⟩ = some (.int .i64 s.1) := obj_cell B2 0
      have p1 : w2.cell? ⟨w.heap.size, 1, none⟩ = some (.int .i64 s.2) := obj_cell B2 1
      go_wp2_with (fail)
      refine bodyPost_ret (v := .tuple #[.agg #[.int .i64 s.1, .int .i64 s.2], .int .i64 0]) (by simp [results, Tryz.results30, go_sem, *]) rfl ?_
      exact ⟨rfl, F.then f2 fun k hk h => by omega⟩
theorem itoa_pos (n : Int) (h : 0 ≤ n) : Lib.itoa n = Lib.decDigits n.toNat := by unfold Lib.itoa; rw [if_neg (by omega)]
theorem itoa_neg (n : Int) (h : n < 0) : Lib.itoa n = 45 :: Lib.decDigits (-n).toNat := by
  unfold Lib.itoa; rw [if_pos h, show n.natAbs = (-n).toNat by omega]
set_option maxRecDepth 100000 in
theorem refPairText_ok (p : Int × Int) (h1 : -4503599627370496 ≤ p.1 ∧ p.1 ≤ 4503599627370496) (h2 : -4503599627370496 ≤ p.2 ∧ p.2 ≤ 4503599627370496) (w : World) :
    Calls Tryz.prog 31 #[.agg #[.int .i64 p.1, .int .i64 p.2]] w fun e w' => e = .returned (.string ⟨(gtext p).toArray⟩) ∧ Frm No w w' := by
  have l1 : (Lib.itoa p.1).length ≤ 21 := Lib.itoa_length_le _ (by omega) (by omega)
  have HI := Lib.hid (fun W => refNumber_ok p.1 (by omega) (by omega) W)
  have B0 := heap_alloc_new w (.cells #[.int .i64 p.1, .int .i64 p.2] 65 (0, 0))
  have F0 : Frm No w (w.alloc (.cells #[.int .i64 p.1, .int .i64 p.2] 65 (0, 0))) := (Frm.refl No w).al _
  obtain ⟨it, hit⟩ : ∃ it : ByteArray, Hid (it = ⟨(Lib.itoa p.1).toArray⟩) := ⟨_, Lib.hid rfl⟩
  have hits : it.size ≤ 21 := by rw [hit.out, size_eq]; exact l1
  rw [← hit.out] at HI
  clear h1
  go_enter Tryz.func31, Tryz.ntmps31
  by_cases hp : 0 < p.2
  · obtain ⟨m, hm⟩ : ∃ m : Nat, p.2 = (m : Int) := ⟨p.2.toNat, by omega⟩
    have HD := Lib.hid (fun W => refDecimal_ok m (by omega) W)
    have hds := dig_len (n := m) (by omega)
    obtain ⟨dk, hdk⟩ : ∃ dk : ByteArray, Hid (dk = ⟨(Lib.decDigits m).toArray⟩) := ⟨_, Lib.hid rfl⟩
    have hdz : dk.size ≤ 21 := by rw [hdk.out, size_eq]; exact hds
    rw [← hdk.out] at HD
    have hr : Hid (it ++ ⟨#[43]⟩ ++ dk ++ ⟨#[105]⟩ = (⟨(gtext p).toArray⟩ : ByteArray)) := Lib.hid (by
      unfold gtext
      rw [if_neg (by omega), if_pos hp, hit.out, hdk.out, itoa_pos p.2 (by omega), hm, Int.toNat_natCast]
      apply ByteArray.ext
      simp [ByteArray.data_append])
    have HM := Lib.hid hm
    clear hm h2
    go_wp2_with (fail)
    refine (HI.out _).mono ?_
    rintro e w1 ⟨rfl, f1⟩
    have B1 := f1.obj B0 id
    have c1 : w1.cell? ⟨w.heap.size, 1, none⟩ = some (.int .i64 m) := by rw [obj_cell B1 1, HM.out]; rfl
    have hm0 : (m : Int) > 0 := by have := HM.out; omega
    have F1 := F0.trans f1
    clear f1
    go_wp2_with (fail)
    refine (HD.out _).mono ?_
    rintro e w2 ⟨rfl, f2⟩
    go_wp2_with (fail)
    go_ret
    rw [hr.out]
    exact ⟨rfl, F1.trans f2⟩
  · by_cases hn : p.2 < 0
    · obtain ⟨m, hm⟩ : ∃ m : Nat, -p.2 = (m : Int) := ⟨(-p.2).toNat, by omega⟩
      have HD := Lib.hid (fun W => refDecimal_ok m (by omega) W)
      have hds := dig_len (n := m) (by omega)
      obtain ⟨dk, hdk⟩ : ∃ dk : ByteArray, Hid (dk = ⟨(Lib.decDigits m).toArray⟩) := ⟨_, Lib.hid rfl⟩
      have hdz : dk.size ≤ 21 := by rw [hdk.out, size_eq]; exact hds
      rw [← hdk.out] at HD
      have hr : Hid (it ++ ⟨#[45]⟩ ++ dk ++ ⟨#[105]⟩ = (⟨(gtext p).toArray⟩ : ByteArray)) := Lib.hid (by
        unfold gtext
        rw [if_neg (by omega), if_neg hp, hit.out, hdk.out, itoa_neg p.2 hn, hm, Int.toNat_natCast]
        apply ByteArray.ext
        simp [ByteArray.data_append])
      go_wp2_with (fail)
      refine (HI.out _).mono ?_
      rintro e w1 ⟨rfl, f1⟩
      have B1 := f1.obj B0 id
      have c1 : w1.cell? ⟨w.heap.size, 1, none⟩ = some (.int .i64 p.2) := obj_cell B1 1
      have F1 := F0.trans f1
      clear f1
      go_wp2_with (fail)
      refine (HD.out _).mono ?_
      rintro e w2 ⟨rfl, f2⟩
      go_wp2_with (fail)
      go_ret
      rw [hr.out]
      exact ⟨rfl, F1.trans f2⟩
    · have hr : Hid (it = (⟨(gtext p).toArray⟩ : ByteArray)) := Lib.hid (by
        unfold gtext
        rw [if_pos (by omega), hit.out, List.append_nil])
      go_wp2_with (fail)
      refine (HI.out _).mono ?_
      rintro e w1 ⟨rfl, f1⟩
      have B1 := f1.obj B0 id
      have c1 : w1.cell? ⟨w.heap.size, 1, none⟩ = some (.int .i64 p.2) := obj_cell B1 1
      go_wp2_with (fail)
      go_ret
      rw [hr.out]
      exact ⟨rfl, F0.trans f1⟩
theorem or_sum (b a : Nat) (hb : b < 65536) (ha : a < 65536) : bits .or .i64 ((b : Int) * 65536) (a : Int) = ((b * 65536 + a : Nat) : Int) := by
  have key : (BitVec.ofInt 64 ((b : Int) * 65536) ||| BitVec.ofInt 64 (a : Int)).toNat = b * 65536 + a := by
    rw [BitVec.toNat_or, BitVec.toNat_ofInt, BitVec.toNat_ofInt]
    have e1 : (((b : Int) * 65536) % ((2 ^ 64 : Nat) : Int)).toNat = b <<< 16 := by rw [Nat.shiftLeft_eq]; omega
    have e2 : ((a : Int) % ((2 ^ 64 : Nat) : Int)).toNat = a := by omega
    rw [e1, e2, ← Nat.shiftLeft_add_eq_or_of_lt (by omega) b, Nat.shiftLeft_eq]
  show IntKind.i64.wrap ((BitVec.ofInt 64 ((b : Int) * 65536) ||| BitVec.ofInt 64 (a : Int)).toNat : Nat) = _
  rw [key, IntKind.wrap_i64]
  omega
set_option maxHeartbeats 1000000 in
set_option maxRecDepth 100000 in
theorem refSum_ok (s : ByteArray) (hs : s.size ≤ 9223372036854775807) (w : World) : Calls Tryz.prog 32 #[.string s] w fun e w' => e = .returned (.int .i64 (adlG 1 0 s.data.toList : Nat)) ∧ w = w' := by
  obtain ⟨l, hl⟩ : ∃ l, l = s.data.toList := ⟨_, rfl⟩
  have hsz : s.size = l.length := by rw [hl]; exact size_eq s
  have HL := Lib.hid hl
  rw [← hl]
  clear hl
  go_enter Tryz.func32, Tryz.ntmps32
  go_wp2_with (fail)
  go_loopg [3, 4, 5] (s.size + 1) (fun g av bv iv wr => ∃ (i a b : Nat), iv = .int .i64 i ∧ av = .int .i64 a ∧ bv = .int .i64 b ∧ i ≤ s.size ∧ g = s.size - i + 1 ∧ w = wr ∧ a < 65521 ∧ b < 65521 ∧ adlG 1 0 l = adlG a b (l.drop i))
  case atStart => exact ⟨0, 1, 0, rfl, rfl, rfl, Nat.zero_le _, by omega, rfl, by omega, by omega, rfl⟩
  case round =>
    obtain ⟨i, a, b, rfl, rfl, rfl, hi, hg, rfl, ha, hb, he⟩ := hrel
    have HG := Lib.hid hg
    have HE := Lib.hid he
    clear hg he
    by_cases hlt : i < s.size
    · have hil : i < l.length := by omega
      have hd : l.drop i = s[i] :: l.drop (i + 1) := by
        have e : l[i] = s[i] := by
          have := HL.out
          subst this
          rfl
        rw [List.drop_eq_getElem_cons hil, e]
      have HD := Lib.hid hd
      have hx256 : s[i].toNat < 256 := s[i].toNat_lt
      clear hd
      go_wp2_with (fail)
      go_roundg (s.size - (i + 1) + 1)
      case measure => have := HG.out; omega
      case rel => exact ⟨i + 1, (a + s[i].toNat) % 65521, (b + (a + s[i].toNat) % 65521) % 65521, by go_num, by go_num, by go_num, by omega, rfl, rfl, Nat.mod_lt _ (by decide), Nat.mod_lt _ (by decide), by rw [HE.out, HD.out]; rfl⟩
    · obtain rfl : i = s.size := by omega
      go_wp2_with (fail)
      go_ret
      have hdn : l.drop s.size = [] := List.drop_eq_nil_of_le (by omega)
      have hb2 := adl_lt [] a b ha hb
      rw [HE.out, hdn]
      unfold adlG
      have hor := or_sum b a (by omega) (by omega)
      exact ⟨by show Ending.returned (.int .i64 (bits .or .i64 ((b : Int) * 65536) (a : Int))) = _; rw [hor], rfl⟩
end Go.Proofs.YtgpdpalhkkjmiaaGreatDoor

/- ConsoleRuns: the law's paired, summed. -/
namespace Go.Proofs.YtgpdpalhkkjmiaaGreatDoor
set_option linter.unusedVariables false
set_option linter.unusedSimpArgs false
open Go.RowKit Go.Lib Go.Tt Go.Shelf
def badS : ByteArray := ⟨#[101, 114, 114, 111, 114, 32, 50, 53, 48, 48]⟩
theorem badS_is : (⟨(errT 2500).toArray⟩ : ByteArray) = badS := by kernel_rfl
theorem pairT_no {ws : List ByteArray} (h : pairR ws = ([], 2500)) : (⟨(pairT ws).toArray⟩ : ByteArray) = badS := by
  rw [(pairR_r ws).2, h]; exact badS_is
theorem pairT_odd {ws : List ByteArray} (h : ws.length % 2 = 1) : (⟨(pairT ws).toArray⟩ : ByteArray) = badS := by
  apply pairT_no
  cases hn : numsL ws with
  | none => unfold pairR; rw [hn]
  | some ns => exact pairR_odd hn (by rw [(nums_W hn).1]; exact h)
theorem pairT_even {ws : List ByteArray} {ns : List Int} (hn : numsL ws = some ns) (h : ¬ ns.length % 2 = 1) : pairT ws = gtext (sumP (0, 0) (pairsUp ns)) := by
  rw [(pairR_r ws).2, pairR_even hn h]; rfl
set_option maxHeartbeats 8000000 in
set_option maxRecDepth 100000 in
theorem lawPaired_ok {w : World} {a : Option Addr} {n c : Nat} {ws : List ByteArray} (h : RdS w eStr (.slice a n c) ws) (hw : wsz ws ≤ 65537) :
    Calls Tryz.prog 21 #[.slice a n c] w fun e w' => e = .returned (.string ⟨(pairT ws).toArray⟩) ∧ Frm No w w' := by
  have hn := h.facts
  have HN := Lib.hid hn.1
  have R1 := Lib.hid h
  have HW := Lib.hid hw
  have hle : n ≤ 65537 := by have := wsz_len ws; omega
  clear h hn hw
  obtain ⟨R, hR⟩ : ∃ R : ByteArray, Hid (R = ⟨(pairT ws).toArray⟩) := ⟨_, Lib.hid rfl⟩
  rw [← hR.out]
  go_enter Tryz.func21, Tryz.ntmps21
  go_wp2_with (fail)
  go_loopg [3, 4] (n + 1) (fun gg ov iv wr => ∃ (i k : Nat) (ns : List Int) (ao : Option Addr) (co : Nat), iv = .int .i64 i ∧ ov = .slice ao k co ∧ i ≤ n ∧ gg = n - i + 1 ∧ Hid (i = 2 * k) ∧ Frm No w wr ∧ Ow wr (fun k => w.heap.size ≤ k) 65 eDt (.slice ao k co) (pairsUp ns) ∧ NumW ws i ns)
  case atStart => exact ⟨0, 0, [], none, 0, rfl, rfl, Nat.zero_le _, by omega, Lib.hid rfl, Frm.refl _ _, Ow.nil _ _ _ _ _, NumW.nil ws⟩
  case round =>
    obtain ⟨i, k, ns, ao, co, rfl, rfl, hi, hg, hik, F, O, S⟩ := hrel
    have hG := Lib.hid hg
    have HS := Lib.hid S
    have HPL := Lib.hid O.cap.1
    have hkn : k ≤ 65537 := by have := hik.out; omega
    clear hg S
    by_cases hlt : i + 1 < n
    · have l1 : i < ws.length := by rw [← HN.out]; omega
      have l2 : i + 1 < ws.length := by rw [← HN.out]; exact hlt
      obtain ⟨b, off, rfl, hbb, hc⟩ := (R1.out.no F).at l1
      have e0 : wr.cell? ⟨b, off + i, none⟩ = some (.string ws[i]) := by have := hc 0 _ rfl; rwa [show off + (i * eStr.k + 0) = off + i from by show off + (i * 1 + 0) = off + i; omega] at this
      obtain ⟨b', off', hbe, hbb', hc'⟩ := (R1.out.no F).at l2
      simp only [Option.some.injEq, Addr.mk.injEq, and_true] at hbe
      obtain ⟨rfl, rfl⟩ := hbe
      have e1 : wr.cell? ⟨b, off + (i + 1), none⟩ = some (.string ws[i + 1]) := by have := hc' 0 _ rfl; rwa [show off + ((i + 1) * eStr.k + 0) = off + (i + 1) from by show off + ((i + 1) * 1 + 0) = off + (i + 1); omega] at this
      have hx1 := wsz_at l1
      have hx2 := wsz_at l2
      clear hc hc'
      obtain ⟨x, hx⟩ : ∃ x, Hid (x = ws[i]) := ⟨_, Lib.hid rfl⟩
      obtain ⟨y, hy⟩ : ∃ y, Hid (y = ws[i + 1]) := ⟨_, Lib.hid rfl⟩
      rw [← hx.out] at e0 hx1
      rw [← hy.out] at e1 hx2
      have HX := lawNum_ok x (by have := HW.out; omega)
      have HY := lawNum_ok y (by have := HW.out; omega)
      clear hx1 hx2
      cases hnx : numL x.data.toList with
      | none =>
        have HR := Lib.hid (hR.out.trans (pairT_no (HS.out.no l1 (by rw [← hx.out]; exact hnx))))
        rw [numR_no hnx] at HX
        have HX := Lib.hid HX
        have HY := Lib.hid HY
        clear hnx
        go_wp2_with (fail)
        refine (HX.out _).mono ?_
        rintro e w2 ⟨rfl, rfl⟩
        go_wp2_with (fail)
        refine (HY.out _).mono ?_
        rintro e w2 ⟨rfl, rfl⟩
        go_wp2_with (fail)
        go_ret
        rw [HR.out]
        exact ⟨rfl, F⟩
      | some nx =>
        have HS1 := HS.out.step l1 (x := nx) (by rw [← hx.out]; exact hnx)
        rw [numR_yes hnx] at HX
        have HX := Lib.hid HX
        clear hnx
        cases hny : numL y.data.toList with
        | none =>
          have HR := Lib.hid (hR.out.trans (pairT_no (HS1.no l2 (by rw [← hy.out]; exact hny))))
          rw [numR_no hny] at HY
          have HY := Lib.hid HY
          clear hny HS1
          go_wp2_with (fail)
          refine (HX.out _).mono ?_
          rintro e w2 ⟨rfl, rfl⟩
          go_wp2_with (fail)
          refine (HY.out _).mono ?_
          rintro e w2 ⟨rfl, rfl⟩
          go_wp2_with (fail)
          go_ret
          rw [HR.out]
          exact ⟨rfl, F⟩
        | some ny =>
          have HS2 := Lib.hid (HS1.step l2 (x := ny) (by rw [← hy.out]; exact hny))
          have HPS : Hid (pairsUp (ns ++ [nx] ++ [ny]) = pairsUp ns ++ [(nx, ny)]) := Lib.hid (by
            have hl := HS.out.len
            have hk2 := hik.out
            have h1 := pairsUp_step (ns ++ [nx] ++ [ny]) k (by simp; omega)
            rw [show 2 * (k + 1) = (ns ++ [nx] ++ [ny]).length by simp; omega, List.take_length] at h1
            rw [h1]
            have e1 : (ns ++ [nx] ++ [ny]).take (2 * k) = ns := by
              rw [List.append_assoc, List.take_left' (by omega)]
            rw [e1]
            have e2 : ∀ h, (ns ++ [nx] ++ [ny])[2 * k]'h = nx := fun h => by
              rw [List.getElem_append_left (by simp; omega), List.getElem_append_right (by omega)]
              simp
            have e3 : ∀ h, (ns ++ [nx] ++ [ny])[2 * k + 1]'h = ny := fun h => by
              rw [List.getElem_append_right (by simp; omega)]
              simp
            rw [e2, e3])
          rw [numR_yes hny] at HY
          have HY := Lib.hid HY
          clear hny HS1
          go_wp2_with (fail)
          refine (HX.out _).mono ?_
          rintro e w2 ⟨rfl, rfl⟩
          go_wp2_with (fail)
          refine (HY.out _).mono ?_
          rintro e w2 ⟨rfl, rfl⟩
          have z1 := F.size
          go_wp2_with (at_builtin; refine wpList_ap _ rfl (.tmp 41) (.tmp 45) 61 61 rfl 65 _ 16 Tryz.underlying61 i_pr rfl (O.al _) ((RdS.litg _ eDt (nx, ny) _ (g := wr.heap.size) rfl).src Tryz.underlying61) rfl rfl rfl ?c1 ?c2 ?_)
          case c1 => rw [← HPL.out]; unfold maxLen; omega
          case c2 => rw [← HPL.out]; omega
          intro a' c' w3 o3 f3
          have F3 : Frm No w w3 := (F.al _).then f3 fun k hk hh => by omega
          rw [← HPL.out] at o3
          go_wp2_with (fail)
          go_roundg (n - (i + 2) + 1)
          case measure => have := hG.out; omega
          case rel => exact ⟨i + 2, k + 1, ns ++ [nx] ++ [ny], a', c', by go_num, by rw [← HPL.out], by omega, rfl, Lib.hid (by have := hik.out; omega), F3, by rw [HPS.out]; exact o3.mono fun k _ hh => (by rcases hh with hh | hh; exact hh; have := hh.1; simp at *; omega), HS2.out⟩
    · have hii : ¬ ((i : Int) + 1 < n) := by omega
      by_cases ho : n % 2 = 1
      · have HR := Lib.hid (hR.out.trans (pairT_odd (by rw [← HN.out]; exact ho)))
        have hod : (((n : Int) % 2) == 1) = true := by simp; omega
        clear ho
        go_wp2_with (fail)
        go_ret
        rw [HR.out]
        exact ⟨rfl, F⟩
      · have hin : i = n := by have := hik.out; omega
        have hnums := HS.out.fin (by rw [← HN.out]; exact hin)
        have hlen := HS.out.len
        have hT := pairT_even hnums (by rw [hlen, hin]; exact ho)
        have hpb := pairsUp_b (ns := ns) (by omega) HS.out.bd
        obtain ⟨p, hp⟩ : ∃ p, Hid (p = sumP (0, 0) (pairsUp ns)) := ⟨_, Lib.hid rfl⟩
        rw [← hp.out] at hT
        have hbd := sumP_bd hpb _ (Nat.le_refl _)
        have hpl := hpb.len
        rw [List.take_length, ← hp.out] at hbd
        have hod : (((n : Int) % 2) == 1) = false := by simp; omega
        have HTX := Lib.hid (fun W => refPairText_ok p (by omega) (by omega) W)
        have HSM := Lib.hid (refSumPairs_ok O.rd hpb hp)
        have HR : Hid ((⟨(gtext p).toArray⟩ : ByteArray) = R) := Lib.hid (by rw [hR.out, hT])
        clear ho hin hnums hlen hT hpb hbd hpl
        go_wp2_with (fail)
        refine HSM.out.mono ?_
        rintro e w2 ⟨rfl, f2⟩
        go_wp2_with (fail)
        refine (HTX.out _).mono ?_
        rintro e w3 ⟨rfl, f3⟩
        go_wp2_with (fail)
        go_ret
        rw [HR.out]
        exact ⟨rfl, ((F.trans f2).al _).trans f3⟩
set_option maxHeartbeats 4000000 in
set_option maxRecDepth 100000 in
theorem lawSummed_ok {w : World} {a : Option Addr} {n c : Nat} {ws : List ByteArray} (h : RdS w eStr (.slice a n c) ws) (hw : wsz ws ≤ 65537) :
    Calls Tryz.prog 22 #[.slice a n c] w fun e w' => e = .returned (.string ⟨(sumT ws).toArray⟩) ∧ Frm No w w' := by
  have hn := h.facts
  have HN := Lib.hid hn.1
  have R1 := Lib.hid h
  have HW := Lib.hid hw
  have hle : n ≤ 65537 := by have := wsz_len ws; omega
  clear h hn hw
  go_enter Tryz.func22, Tryz.ntmps22
  go_wp2_with (fail)
  go_loopg [3, 4] (n + 1) (fun gg sv iv wr => ∃ (k : Nat) (W : ByteArray), iv = .int .i64 k ∧ sv = .string W ∧ k ≤ n ∧ gg = n - k + 1 ∧ w = wr ∧ Hid (W.data.toList = joinT (ws.take k) []))
  case atStart => exact ⟨0, ⟨#[]⟩, rfl, rfl, Nat.zero_le _, by omega, rfl, Lib.hid (by rw [List.take_zero, joinT_nil])⟩
  case round =>
    obtain ⟨k, W, rfl, rfl, hk, hg, rfl, hW⟩ := hrel
    have hG := Lib.hid hg
    have hWs : W.size ≤ 65537 := by
      have h1 := join_wsz (ws.take k) [] (by decide)
      have h2 := wsz_app (ws.take k) (ws.drop k)
      rw [List.take_append_drop] at h2
      have := HW.out
      rw [size_eq, hW.out]; omega
    clear hg
    by_cases hkn : k < n
    · have l2 : k < ws.length := by rw [← HN.out]; exact hkn
      obtain ⟨b2, off2, rfl, hbb2, hc2⟩ := R1.out.at l2
      have e1 : w.cell? ⟨b2, off2 + k, none⟩ = some (.string ws[k]) := by
        have := hc2 0 _ rfl
        rwa [show off2 + (k * eStr.k + 0) = off2 + k from by show off2 + (k * 1 + 0) = off2 + k; omega] at this
      have hwz := wsz_at l2
      have hst : joinT (ws.take (k + 1)) [] = joinT (ws.take k) [] ++ (ws[k]).data.toList := by
        rw [List.take_succ_eq_append_getElem l2, joinT_snoc]
        by_cases h0 : ws.take k = []
        · rw [if_pos h0, h0, joinT_nil, List.nil_append]
        · rw [if_neg h0, List.nil_append]
      obtain ⟨y, hy⟩ : ∃ y, Hid (y = ws[k]) := ⟨_, Lib.hid rfl⟩
      rw [← hy.out] at e1 hwz hst
      have hys : y.size ≤ 65537 := by have := HW.out; omega
      have HST : Hid ((W ++ y).data.toList = joinT (ws.take (k + 1)) []) := Lib.hid (by
        rw [hst, ← hW.out]
        simp [ByteArray.data_append])
      clear hc2 hwz hst
      go_wp2_with (fail)
      go_roundg (n - (k + 1) + 1)
      case measure => have := hG.out; omega
      case rel => exact ⟨k + 1, _, by go_num, rfl, by omega, rfl, rfl, HST⟩
    · have hkk : ¬ ((k : Int) < n) := by omega
      have hWl : W.data.toList = joinT ws [] := by rw [hW.out, List.take_of_length_le (by rw [← HN.out]; omega)]
      have HS := Lib.hid (refSum_ok W (by omega))
      have hb := adl_bd W.data.toList
      obtain ⟨s, hs⟩ : ∃ s, Hid (s = adlG 1 0 W.data.toList) := ⟨_, Lib.hid rfl⟩
      rw [← hs.out] at HS hb
      have HD := Lib.hid (fun W => refDecimal_ok s (by omega) W)
      have hr : Hid (sumT ws = Lib.decDigits s) := Lib.hid (by
        unfold sumT
        rw [← hWl, ← hs.out, itoa_pos _ (by omega), Int.toNat_natCast])
      clear hWl
      go_wp2_with (fail)
      refine (HS.out _).mono ?_
      rintro e w2 ⟨rfl, rfl⟩
      go_wp2_with (fail)
      refine (HD.out _).mono ?_
      rintro e w3 ⟨rfl, f3⟩
      go_wp2_with (fail)
      go_ret
      rw [hr.out]
      exact ⟨rfl, f3⟩
end Go.Proofs.YtgpdpalhkkjmiaaGreatDoor

/- ConsoleRuns: the law's setted (printed by gen_lcs.py). -/
namespace Go.Proofs.YtgpdpalhkkjmiaaGreatDoor
set_option linter.unusedVariables false
set_option linter.unusedSimpArgs false
open Go.RowKit Go.Lib Go.Tt Go.Shelf
section
variable {w : World} {l : List En} {a b f : Option Addr} {n m d g : Nat}
theorem set_dotsR (h : CellR w (setC l) (.slice a n m) (.slice b 0 d) (.slice f 0 g)) (hb : l.length ≤ 1000000) (v : ByteArray) (n' : Nat) (hn : n' = (dotsOf l v).length) :
    Calls Tryz.prog 33 #[.agg #[.int .i64 2, .bool false, .int .i64 0, .int .i64 0, .string ⟨#[]⟩, .int .i64 0, .int .i64 0, .slice a n m, .slice b 0 d, .slice f 0 g], .string v] w fun e w' => ∃ a' m', e = .returned (.tuple #[.slice a' n' m', .int .i64 0]) ∧ Ow w' (Nw No w w') 83 eDt (.slice a' n' m') (dotsOf l v) ∧ Frm No w w' := by
  refine (refDotsOf_ok h (setC_b hb) rfl v).mono ?_
  rintro e w' ⟨a', n2, m', rfl, o, fr⟩
  have o' : Ow w' (Nw No w w') 83 eDt (.slice a' n2 m') (dotsOf l v) := o
  obtain rfl : n2 = n' := o'.cap.1.trans hn.symm
  exact ⟨a', m', rfl, o', fr⟩
theorem set_dropR (h : CellR w (setC l) (.slice a n m) (.slice b 0 d) (.slice f 0 g)) (hb : l.length ≤ 1000000) {ad : Option Addr} {nd cd : Nat} {ds : List Dt} (hd : RdS w eDt (.slice ad nd cd) ds) (n' : Nat) (hn : n' = (dropped l ds).length) :
    Calls Tryz.prog 34 #[.agg #[.int .i64 2, .bool false, .int .i64 0, .int .i64 0, .string ⟨#[]⟩, .int .i64 0, .int .i64 0, .slice a n m, .slice b 0 d, .slice f 0 g], .slice ad nd cd] w fun e w' => ∃ a' m' b' d' f' g', e = .returned (.tuple #[.agg #[.int .i64 2, .bool false, .int .i64 0, .int .i64 0, .string ⟨#[]⟩, .int .i64 0, .int .i64 0, .slice a' n' m', .slice b' 0 d', .slice f' 0 g'], .int .i64 0]) ∧ CellO w' (Nw No w w') (setC (dropped l ds)) (.slice a' n' m') (.slice b' 0 d') (.slice f' 0 g') ∧ Frm No w w' := by
  refine (refDrop_ok h (setC_b hb) rfl hd).mono ?_
  rintro e w' ⟨ve, vl, vs, rfl, o, fr⟩
  have o' : CellO w' (Nw No w w') (setC (dropped l ds)) ve vl vs := o
  obtain ⟨a', m', b', d', f', g', rfl, rfl, rfl⟩ := set_sh (n' := n') o' hn
  exact ⟨a', m', b', d', f', g', rfl, o', fr⟩
theorem set_valuesR (h : CellR w (setC l) (.slice a n m) (.slice b 0 d) (.slice f 0 g)) (hb : l.length ≤ 1000000) (n' : Nat) (hn : n' = (valsOf l).length) :
    Calls Tryz.prog 36 #[.agg #[.int .i64 2, .bool false, .int .i64 0, .int .i64 0, .string ⟨#[]⟩, .int .i64 0, .int .i64 0, .slice a n m, .slice b 0 d, .slice f 0 g]] w fun e w' => ∃ a' m', e = .returned (.tuple #[.slice a' n' m', .int .i64 0]) ∧ Ow w' (Nw No w w') 9 eStr (.slice a' n' m') (valsOf l) ∧ Frm No w w' := by
  refine (refValues_ok h (setC_b hb) rfl).mono ?_
  rintro e w' ⟨a', n2, m', rfl, o, fr⟩
  have o' : Ow w' (Nw No w w') 9 eStr (.slice a' n2 m') (valsOf l) := o
  obtain rfl : n2 = n' := o'.cap.1.trans hn.symm
  exact ⟨a', m', rfl, o', fr⟩
end
/-- What is said of the ten cells of a cell handed back. -/
structure QOk (Q : (Nat → Prop) → List Value → World → Prop) : Prop where
  frm : ∀ {F G : Nat → Prop} {vs : List Value} {W W' : World}, Q F vs W → Frm G W W' → (∀ k, F k → ¬ G k) → Q F vs W'
  mono : ∀ {F G : Nat → Prop} {vs : List Value} {W : World}, Q F vs W → (∀ k, k < W.heap.size → F k → G k) → Q G vs W
def Ten (E : Int) (Q : (Nat → Prop) → List Value → World → Prop) (W : World) (e : Ending) (W' : World) : Prop := ∃ vs : List Value, vs.length = 10 ∧ (∀ u ∈ vs, u.oneCell' = true) ∧ e = .returned (.tuple #[.agg vs.toArray, .int .i64 E]) ∧ Q (Nw No W W') vs W' ∧ Frm No W W'
def QS (l : List En) (F : Nat → Prop) (vs : List Value) (W : World) : Prop := ∃ (a b f : Option Addr) (n m d g : Nat), vs = [.int .i64 2, .bool false, .int .i64 0, .int .i64 0, .string ⟨#[]⟩, .int .i64 0, .int .i64 0, .slice a n m, .slice b 0 d, .slice f 0 g] ∧ CellO W F (setC l) (.slice a n m) (.slice b 0 d) (.slice f 0 g)
def QN (_ : Nat → Prop) (_ : List Value) (_ : World) : Prop := True
theorem QS_ok (l : List En) : QOk (QS l) := ⟨fun ⟨a, b, f, n, m, d, g, h, o⟩ fr hd => ⟨a, b, f, n, m, d, g, h, o.frm fr hd⟩, fun ⟨a, b, f, n, m, d, g, h, o⟩ hs => ⟨a, b, f, n, m, d, g, h, o.mono hs⟩⟩
theorem QN_ok : QOk QN := ⟨fun _ _ _ => trivial, fun _ _ => trivial⟩
theorem zlist_one : ∀ u ∈ [Value.int .i64 0, .bool false, .int .i64 0, .int .i64 0, .string ⟨#[]⟩, .int .i64 0, .int .i64 0, .slice none 0 0, .slice none 0 0, .slice none 0 0], u.oneCell' = true := by
  intro u hu
  simp only [List.mem_cons, List.not_mem_nil, or_false] at hu
  rcases hu with rfl | rfl | rfl | rfl | rfl | rfl | rfl | rfl | rfl | rfl <;> rfl
/-- The reference's PutEntry of a word. -/
theorem set_putR {wr : World} {l : List En} {i : Nat} {a b f : Option Addr} {n m d g : Nat} {F : Nat → Prop} (O : CellO wr F (setC l) (.slice a n m) (.slice b 0 d) (.slice f 0 g)) (hb : l.length ≤ 100000) (hI : IncE l i) (hi : i ≤ 65537) (x : ByteArray) (hx : x.size ≤ maxLen) (hd : dashB x = false) :
    ∃ E Q, QOk Q ∧ ((E = 0 ∧ ∃ l', setS i l x = some l' ∧ Q = QS l') ∨ (E = 900 ∧ setS i l x = none)) ∧ ∀ W, Frm No wr W → Calls Tryz.prog 35 #[.agg #[.int .i64 2, .bool false, .int .i64 0, .int .i64 0, .string ⟨#[]⟩, .int .i64 0, .int .i64 0, .slice a n m, .slice b 0 d, .slice f 0 g], .agg #[.int .i64 0, .int .i64 ((i : Int) + 1)], .string x] W (Ten E Q W) := by
  have hdm : dotMay (0, (i : Int) + 1) = true := by unfold dotMay; simp; omega
  by_cases h6 : x.size ≤ 256
  · refine ⟨0, QS (putEn l (0, (i : Int) + 1) x), QS_ok _, .inl ⟨rfl, _, setS_put hI hd h6, rfl⟩, fun W fr => ?_⟩
    have h := (O.frm fr fun k _ h => h).rd
    have hr : ((setC l).ents.length + 1) * 32 ≤ 140737488355328 := by show (l.length + 1) * 32 ≤ _; omega
    refine (refPut_ok h (setC_b (by omega)) rfl (0, (i : Int) + 1) hdm x h6 (put_new hI) hr).mono ?_
    rintro e w' ⟨ve, vl, vs, rfl, o, fr⟩
    have o' : CellO w' (Nw No W w') (setC (putEn l (0, (i : Int) + 1) x)) ve vl vs := o
    obtain ⟨a', m', b', d', f', g', rfl, rfl, rfl⟩ := set_sh o' rfl
    exact ⟨_, rfl, set_one a' b' f' _ m' d' g', rfl, ⟨a', b', f', _, m', d', g', rfl, o'⟩, fr⟩
  · refine ⟨900, QN, QN_ok, .inr ⟨rfl, setS_bad hd h6⟩, fun W fr => ?_⟩
    have h := (O.frm fr fun k _ h => h).rd
    refine (refPut_bad1 h (0, (i : Int) + 1) x hx (.inr (.inr (by omega)))).mono ?_
    rintro e w' ⟨rfl, fr⟩
    exact ⟨_, rfl, zlist_one, rfl, trivial, fr⟩
theorem setT_no {ws : List ByteArray} (h : setR ws = ([], 900)) : (⟨(setT ws).toArray⟩ : ByteArray) = errB 900 := by
  rw [(setR_r ws).2, h]; rfl
theorem setT_yes {ws : List ByteArray} {t : List UInt8} (h : setR ws = (t, 0)) : setT ws = t := by
  rw [(setR_r ws).2, h]; rfl
theorem size_pos_of {x : ByteArray} (h : x.data.toList ≠ []) : 0 < x.size := by
  rw [size_eq]; exact List.length_pos_iff.2 h
set_option maxHeartbeats 16000000 in
set_option maxRecDepth 100000 in
theorem lawSetted_ok {w : World} {a : Option Addr} {n c : Nat} {ws : List ByteArray} (h : RdS w eStr (.slice a n c) ws) (hw : wsz ws ≤ 65537) (hne : ∀ v ∈ ws, v.data.toList ≠ []) :
    Calls Tryz.prog 23 #[.slice a n c] w fun e w' => e = .returned (.string ⟨(setT ws).toArray⟩) ∧ Frm No w w' := by
  have hn := h.facts
  have HN := Lib.hid hn.1
  have R1 := Lib.hid h
  have HW := Lib.hid hw
  have HNE := Lib.hid hne
  have hle : n ≤ 65537 := by have := wsz_len ws; omega
  clear h hn hw hne
  obtain ⟨R, hR⟩ : ∃ R : ByteArray, Hid (R = ⟨(setT ws).toArray⟩) := ⟨_, Lib.hid rfl⟩
  rw [← hR.out]
  go_enter Tryz.func23, Tryz.ntmps23
  go_wp2_with (fail)
  go_loopg [4] (n + 1) (fun gg iv wr => ∃ (i : Nat) (l : List En) (a1 b1 f1 : Option Addr) (n1 m1 d1 g1 : Nat), iv = .int .i64 i ∧ i ≤ n ∧ gg = n - i + 1 ∧ Frm No w wr ∧
    wr.heap[w.heap.size]? = some (.cells #[.int .i64 2, .bool false, .int .i64 0, .int .i64 0, .string ⟨#[]⟩, .int .i64 0, .int .i64 0, .slice a1 n1 m1, .slice b1 0 d1, .slice f1 0 g1] 75 (0, 0)) ∧
    CellO wr (fun k => w.heap.size + 1 ≤ k) (setC l) (.slice a1 n1 m1) (.slice b1 0 d1) (.slice f1 0 g1) ∧ SetW ws i l)
  case atStart => exact ⟨0, [], none, none, none, 0, 0, 0, 0, rfl, Nat.zero_le _, by omega, (Frm.refl No w).al _, heap_alloc_new w _, ⟨Ow.nil _ _ _ _ _, Ow.nil _ _ _ _ _, Ow.nil _ _ _ _ _⟩, SetW.nil ws⟩
  case round =>
    obtain ⟨i, l, a1, b1, f1, n1, m1, d1, g1, rfl, hi, hg, F, B, O, S⟩ := hrel
    have hG := Lib.hid hg
    have nB := lt_of_block B
    have HS := Lib.hid S
    have hll : l.length ≤ 100000 := by have := S.len; omega
    have hw1 : w.heap.size + 1 ≤ wr.heap.size := nB
    obtain ⟨q0, q1, q2, q3, q4, q5, q6, q7, q8, q9⟩ := obj10 B
    clear hg S
    by_cases hlt : i < n
    · have l1 : i < ws.length := by rw [← HN.out]; exact hlt
      obtain ⟨b, off, rfl, hbb, hc⟩ := (R1.out.no F).at l1
      have e0 : wr.cell? ⟨b, off + i, none⟩ = some (.string ws[i]) := by have := hc 0 _ rfl; rwa [show off + (i * eStr.k + 0) = off + i from by show off + (i * 1 + 0) = off + i; omega] at this
      have hxw := wsz_at l1
      have hxp := size_pos_of (HNE.out _ (List.getElem_mem l1))
      clear hc
      obtain ⟨x, hx⟩ : ∃ x, Hid (x = ws[i]) := ⟨_, Lib.hid rfl⟩
      rw [← hx.out] at e0 hxw hxp
      have hxm : x.size ≤ 65537 := by have := HW.out; omega
      clear hxw
      have hb : ((x[0].toNat : Int) == 45) = dashB x := by
        rw [dash_head hxp, Bool.eq_iff_iff, beq_iff_eq, beq_iff_eq]
        exact ⟨fun h => UInt8.toNat.inj (by show x[0].toNat = 45; omega), fun h => by rw [h]; rfl⟩
      cases hd : dashB x with
      | true =>
        rw [hd] at hb
        have HS1 := Lib.hid (HS.out.step l1 (by rw [← hx.out]; exact setS_dash HS.out.inc hd))
        have hxe : x.extract 1 x.size = cutB x := cut_ext hd
        obtain ⟨cb, hcb⟩ : ∃ cb, Hid (cb = cutB x) := ⟨_, Lib.hid rfl⟩
        rw [← hcb.out] at HS1 hxe
        clear hd
        obtain ⟨nd, hnd⟩ : ∃ nd, Hid (nd = (dotsOf l cb).length) := ⟨_, Lib.hid rfl⟩
        have HDT := Lib.hid (fun W (f : Frm No wr W) => set_dotsR ((O.frm f fun k _ h => h).rd) (by omega : l.length ≤ 1000000) cb nd hnd.out)
        go_wp2_with (fail)
        refine wp_region_plan [([0, 1, 2, 3, 4, 5, 6], []), ([7, 8, 9, 10, 11], [])] 68 (by kernel_rfl) (by kernel_rfl) (by simp) ?_
        intro N hN
        simp only [wpSegs, List.map_cons, List.map_nil, List.getD_cons_zero, List.getD_cons_succ]
        go_wp2_with (fail)
        refine (HDT.out _ (Frm.drew No wr)).mono ?_
        rintro e w2 ⟨a2, m2, rfl, o2, f2'⟩
        have f2 := (Frm.drew No wr).trans f2'
        have B2 := f2.obj B id
        have nB2 := lt_of_block B2
        have F2 := F.trans f2
        replace O := O.frm f2 fun k _ h => h
        clear q0 q1 q2 q3 q4 q5 q6 q7 q8 q9 B e0
        obtain ⟨q0, q1, q2, q3, q4, q5, q6, q7, q8, q9⟩ := obj10 B2
        obtain ⟨n3, hn3⟩ : ∃ n3, Hid (n3 = (dropped l (dotsOf l cb)).length) := ⟨_, Lib.hid rfl⟩
        have R2 := o2.rd
        have z2 := f2.size
        have HDR := Lib.hid (set_dropR O.rd (by omega : l.length ≤ 1000000) R2 n3 hn3.out)
        clear o2 f2 f2'
        go_wp2_with (fail)
        refine HDR.out.mono ?_
        rintro e w3 ⟨a3, m3, b3, d3, f3, g3, rfl, o3, f3'⟩
        have B3 := f3'.obj B2 id
        have nB3 := lt_of_block B3
        have F3 := F2.trans f3'
        have s3 := f3'.size
        clear q0 q1 q2 q3 q4 q5 q6 q7 q8 q9 B2 R2
        have T3 := heap_alloc_new w3 (.cells #[.int .i64 2, .bool false, .int .i64 0, .int .i64 0, .string ⟨#[]⟩, .int .i64 0, .int .i64 0, .slice a3 n3 m3, .slice b3 0 d3, .slice f3 0 g3] 75 (0, 0))
        obtain ⟨q0, q1, q2, q3, q4, q5, q6, q7, q8, q9⟩ := obj10 T3
        go_wp2_with (refine wpList_sto _ rfl (.tmp 3) (.tmp 42) 75 rfl (al_old B3) (by kernel_rfl) (by rfl) (set_one a3 b3 f3 n3 m3 d3 g3) rfl rfl ?_)
        intro w4 B4 f4 z4
        go_wp2_with (fail)
        go_roundg (n - (i + 1) + 1)
        case measure => have := hG.out; omega
        case rel => exact ⟨i + 1, dropped l (dotsOf l cb), a3, b3, f3, n3, m3, d3, g3, by go_num, by omega, rfl, (F3.al _).then f4 fun k hk h => by omega, B4, ((o3.mono (G := fun k => w.heap.size + 1 ≤ k) fun k hk h => by rcases h with h | h; exact h.elim; have := h.1; omega).frm (Frm.alloc No w3 _) fun k _ h => h).frm f4 fun k h e => by omega, HS1.out⟩
      | false =>
        rw [hd] at hb
        obtain ⟨E, Q, hQ, hres, hput⟩ := set_putR O hll HS.out.inc (by omega : i ≤ 65537) x (by unfold maxLen; omega) hd
        have HQ := Lib.hid hQ
        have HRES := Lib.hid hres
        have HP := Lib.hid hput
        clear hd hQ hres hput
        go_wp2_with (fail)
        go_upto_region 9 with fail
        go_cut [9, 10] (fun dv ev wx => ∃ (g : Nat) (vs : List Value), dv = .pointer (some ⟨g, 0, none⟩) ∧ ev = .int .i64 E ∧ vs.length = 10 ∧ (∀ u ∈ vs, u.oneCell' = true) ∧ wx.heap[g]? = some (.cells vs.toArray 75 (0, 0)) ∧ Q (fun k => w.heap.size + 1 ≤ k ∧ k ≠ g) vs wx ∧ Frm No wr wx ∧ wr.heap.size ≤ g)
        case first =>
          refine wp_region_fork (.seg [0, 1, 4, 5, 6, 7] [] (.fork 2 [7, 0] (.fork 3 [7, 0] (.fork 8 [] (.seg [9, 10, 11, 12] [] (.seg [13] [] (.seg [14] [] .nil))) 12 [7, 0] (.seg [8] [] (.seg [9, 10, 11, 13] [] (.seg [14] [] .nil)))) 12 [7, 0] (.seg [3] [7, 0] (.seg [8] [] (.seg [9, 10, 11, 13] [] (.seg [14] [] .nil))))) 12 [7, 0] (.seg [2] [7, 0] (.seg [3] [7, 0] (.seg [8] [] (.seg [9, 10, 11, 13] [] (.seg [14] [] .nil))))))) 68 (by kernel_rfl) (by kernel_rfl) (by simp) ?_
          intro N hN
          simp only [wpST, wpSg, List.map_cons, List.map_nil, List.getD_cons_zero, List.getD_cons_succ]
          go_wp2_with (fail)
          refine ⟨?_, ?_⟩
          · go_wp2_with (fail)
            refine ⟨again_cons (again_of rfl rfl ?_) (again_cons (again_of rfl rfl ?_) again_nil), ?_⟩
            · go_simp
            · go_simp
            refine ⟨?_, ?_⟩
            · go_wp2_with (fail)
              refine ⟨again_cons (again_of rfl rfl ?_) (again_cons (again_of rfl rfl ?_) again_nil), ?_⟩
              · go_simp
              · go_simp
              refine ⟨?_, ?_⟩
              · go_wp2_with (fail)
                refine (HP.out _ (Frm.drew No wr)).mono ?_
                rintro e w1 ⟨vs, hl, ho, rfl, hq, f1⟩
                have s1 := f1.size
                go_wp2_with (refine wpList_sto (vs := vs) _ rfl (.tmp 9) (.tmp 53) 75 rfl (heap_alloc_new w1 _) (by rw [hl]; kernel_rfl) (by rw [hl]; rfl) ho rfl rfl ?_)
                intro w2 T2 f2 z2
                go_wp2_with (fail)
                go_meet
                exact ⟨_, vs, rfl, rfl, hl, ho, T2, HQ.out.frm (HQ.out.frm (HQ.out.mono hq fun k hk h => by rcases h with h | h; exact h.elim; have := h.1; simp at this; omega) (Frm.alloc No w1 _) fun k _ h => h) f2 fun k hk e => hk.2 e, ((((Frm.drew No wr).trans f1).al _).then f2 fun k hk h => by have := f1.size; simp at this; omega), s1⟩
              · go_wp2_with (fail)
                refine ⟨again_cons (again_of rfl rfl ?_) (again_cons (again_of rfl rfl ?_) again_nil), ?_⟩
                · go_simp
                · go_simp
                go_wp2_with (fail)
                refine (HP.out _ (((Frm.refl No wr).al _).trans (Frm.drew No _))).mono ?_
                rintro e w1 ⟨vs, hl, ho, rfl, hq, f1⟩
                have T1 := f1.obj (heap_alloc_new wr (.cells #[.int .i64 0, .bool false, .int .i64 0, .int .i64 0, .string ⟨#[]⟩, .int .i64 0, .int .i64 0, .slice none 0 0, .slice none 0 0, .slice none 0 0] 75 (0, 0))) id
                have s1 := f1.size
                simp only [World.size_drew, World.size_alloc] at s1
                go_wp2_with (refine wpList_sto (vs := vs) _ rfl (.tmp 9) (.tmp 53) 75 rfl T1 (by rw [hl]; kernel_rfl) (by rw [hl]; rfl) ho rfl rfl ?_)
                intro w2 T2 f2 z2
                go_wp2_with (fail)
                go_meet
                exact ⟨_, vs, rfl, rfl, hl, ho, T2, HQ.out.frm (HQ.out.mono hq fun k hk h => by rcases h with h | h; exact h.elim; have := h.1; simp at this; omega) f2 fun k hk e => hk.2 e, ((((Frm.refl No wr).al _).trans (Frm.drew No _)).trans f1).then f2 fun k hk h => by omega, Nat.le_refl _⟩
            · go_wp2_with (fail)
              refine ⟨again_cons (again_of rfl rfl ?_) (again_cons (again_of rfl rfl ?_) again_nil), ?_⟩
              · go_simp
              · go_simp
              go_wp2_with (fail)
              refine ⟨again_cons (again_of rfl rfl ?_) (again_cons (again_of rfl rfl ?_) again_nil), ?_⟩
              · go_simp
              · go_simp
              go_wp2_with (fail)
              refine (HP.out _ (((Frm.refl No wr).al _).trans (Frm.drew No _))).mono ?_
              rintro e w1 ⟨vs, hl, ho, rfl, hq, f1⟩
              have T1 := f1.obj (heap_alloc_new wr (.cells #[.int .i64 0, .bool false, .int .i64 0, .int .i64 0, .string ⟨#[]⟩, .int .i64 0, .int .i64 0, .slice none 0 0, .slice none 0 0, .slice none 0 0] 75 (0, 0))) id
              have s1 := f1.size
              simp only [World.size_drew, World.size_alloc] at s1
              go_wp2_with (refine wpList_sto (vs := vs) _ rfl (.tmp 9) (.tmp 53) 75 rfl T1 (by rw [hl]; kernel_rfl) (by rw [hl]; rfl) ho rfl rfl ?_)
              intro w2 T2 f2 z2
              go_wp2_with (fail)
              go_meet
              exact ⟨_, vs, rfl, rfl, hl, ho, T2, HQ.out.frm (HQ.out.mono hq fun k hk h => by rcases h with h | h; exact h.elim; have := h.1; simp at this; omega) f2 fun k hk e => hk.2 e, ((((Frm.refl No wr).al _).trans (Frm.drew No _)).trans f1).then f2 fun k hk h => by omega, Nat.le_refl _⟩
          · go_wp2_with (fail)
            refine ⟨again_cons (again_of rfl rfl ?_) (again_cons (again_of rfl rfl ?_) again_nil), ?_⟩
            · go_simp
            · go_simp
            go_wp2_with (fail)
            refine ⟨again_cons (again_of rfl rfl ?_) (again_cons (again_of rfl rfl ?_) again_nil), ?_⟩
            · go_simp
            · go_simp
            go_wp2_with (fail)
            refine ⟨again_cons (again_of rfl rfl ?_) (again_cons (again_of rfl rfl ?_) again_nil), ?_⟩
            · go_simp
            · go_simp
            go_wp2_with (fail)
            refine (HP.out _ (((Frm.refl No wr).al _).trans (Frm.drew No _))).mono ?_
            rintro e w1 ⟨vs, hl, ho, rfl, hq, f1⟩
            have T1 := f1.obj (heap_alloc_new wr (.cells #[.int .i64 0, .bool false, .int .i64 0, .int .i64 0, .string ⟨#[]⟩, .int .i64 0, .int .i64 0, .slice none 0 0, .slice none 0 0, .slice none 0 0] 75 (0, 0))) id
            have s1 := f1.size
            simp only [World.size_drew, World.size_alloc] at s1
            go_wp2_with (refine wpList_sto (vs := vs) _ rfl (.tmp 9) (.tmp 53) 75 rfl T1 (by rw [hl]; kernel_rfl) (by rw [hl]; rfl) ho rfl rfl ?_)
            intro w2 T2 f2 z2
            go_wp2_with (fail)
            go_meet
            exact ⟨_, vs, rfl, rfl, hl, ho, T2, HQ.out.frm (HQ.out.mono hq fun k hk h => by rcases h with h | h; exact h.elim; have := h.1; simp at this; omega) f2 fun k hk e => hk.2 e, ((((Frm.refl No wr).al _).trans (Frm.drew No _)).trans f1).then f2 fun k hk h => by omega, Nat.le_refl _⟩
        case rest =>
          obtain ⟨g, vs, rfl, rfl, hl, ho, T, hq, f, hgw⟩ := hcut
          have B2 := f.obj B id
          have F2 := F.trans f
          have nB2 := lt_of_block B2
          have nT := lt_of_block T
          clear q0 q1 q2 q3 q4 q5 q6 q7 q8 q9 B e0
          rcases HRES.out with ⟨rfl, l', hs', rfl⟩ | ⟨rfl, hs'⟩
          · obtain ⟨a3, b3, f3, n3, m3, d3, g3, rfl, o3⟩ := hq
            have HS1 := Lib.hid (HS.out.step l1 (by rw [← hx.out]; exact hs'))
            obtain ⟨q0, q1, q2, q3, q4, q5, q6, q7, q8, q9⟩ := obj10 T
            clear hl ho
            go_wp2_with (refine wpList_sto _ rfl (.tmp 3) (.tmp 60) 75 rfl B2 (by kernel_rfl) (by rfl) (set_one a3 b3 f3 n3 m3 d3 g3) rfl rfl ?_)
            intro w4 B4 f4 z4
            go_wp2_with (fail)
            go_roundg (n - (i + 1) + 1)
            case measure => have := hG.out; omega
            case rel => exact ⟨i + 1, l', a3, b3, f3, n3, m3, d3, g3, by go_num, by omega, rfl, F2.then f4 fun k hk h => by omega, B4, (o3.mono (G := fun k => w.heap.size + 1 ≤ k) fun k hk h => h.1).frm f4 fun k h e => by omega, HS1.out⟩
          · have HR := Lib.hid (hR.out.trans (setT_no (HS.out.no l1 (by rw [← hx.out]; exact hs'))))
            obtain ⟨dk, hdk⟩ : ∃ dk : ByteArray, Hid (dk = ⟨(Lib.decDigits 900).toArray⟩) := ⟨_, Lib.hid rfl⟩
            have HDC := fun W => refDecimal_ok 900 (by decide) W
            rw [← hdk.out] at HDC
            have HDC := Lib.hid HDC
            have HE : Hid ((⟨#[101, 114, 114, 111, 114, 32]⟩ : ByteArray) ++ dk = errB 900) := Lib.hid (by rw [hdk.out]; exact err_ba 900)
            have hds : dk.size ≤ 21 := by rw [hdk.out]; exact dec_sz (by decide)
            clear hl ho hq
            go_wp2_with (fail)
            refine (HDC.out _).mono ?_
            rintro e w3 ⟨rfl, f3⟩
            go_wp2_with (fail)
            go_ret
            rw [HR.out]
            exact ⟨by rw [← HE.out]; rfl, F2.trans f3⟩
    · have hii : ¬ ((i : Int) < n) := by omega
      have hfin := HS.out.fin (by rw [← HN.out]; omega)
      have hT := setT_yes hfin
      have HR : Hid ((⟨(joinT (valsOf l) [32]).toArray⟩ : ByteArray) = R) := Lib.hid (by rw [hR.out, hT])
      have hwz := HS.out.sz
      obtain ⟨nv, hnv⟩ : ∃ nv, Hid (nv = (valsOf l).length) := ⟨_, Lib.hid rfl⟩
      have HV := Lib.hid (set_valuesR O.rd (by omega : l.length ≤ 1000000) nv hnv.out)
      have HWZ : wsz (valsOf l) ≤ 4611686018427 := by omega
      clear hwz hfin hT
      go_wp2_with (fail)
      refine HV.out.mono ?_
      rintro e w2 ⟨a2, m2, rfl, o2, f2⟩
      have R2 := o2.rd
      clear o2
      go_wp2_with (fail)
      refine (lawLine_ok R2 HWZ).mono ?_
      rintro e w3 ⟨rfl, rfl⟩
      go_wp2_with (fail)
      go_ret
      rw [HR.out]
      exact ⟨rfl, F.trans f2⟩
end Go.Proofs.YtgpdpalhkkjmiaaGreatDoor

/- ConsoleRuns: the reference's At, the law's listed (printed by gen_lcl.py). -/
namespace Go.Proofs.YtgpdpalhkkjmiaaGreatDoor
set_option linter.unusedVariables false
set_option linter.unusedSimpArgs false
open Go.RowKit Go.Lib Go.Tt Go.Shelf
set_option maxHeartbeats 1000000 in
set_option maxRecDepth 100000 in
theorem refAt_ok {w : World} {c : CellV} {ve vl vs : Value} (h : CellR w c ve vl vs) (hb : CellB c) (hk : c.kind = 3) {x : El} {t : List El} (hx : (c.elems.filter fun e => !e.2.2.2.2) = x :: t) :
    Calls Tryz.prog 38 #[cval c ve vl vs, .int .i64 0] w fun e w' => e = .returned (.tuple #[.agg #[.int .i64 x.1, .int .i64 x.2.1], .int .i64 0]) ∧ Frm No w w' := by
  have HR := Lib.hid h
  have HBB := Lib.hid hb
  obtain ⟨he, hl, hs⟩ := h
  obtain ⟨ae, ce, rfl⟩ := he.sh
  obtain ⟨al, cl, rfl⟩ := hl.sh
  obtain ⟨at_, cs, rfl⟩ := hs.sh
  have hcv : cval c (.slice ae c.ents.length ce) (.slice al c.elems.length cl) (.slice at_ c.seen.length cs) = .agg #[.int .i64 3, .bool c.set, .int .i64 c.st.1, .int .i64 c.st.2, .string c.value, .int .i64 c.num.1, .int .i64 c.num.2, .slice ae c.ents.length ce, .slice al c.elems.length cl, .slice at_ c.seen.length cs] := by unfold cval; rw [hk]
  have HK : Hid (∀ W, Frm No w W → Calls Tryz.prog 57 #[.agg #[.int .i64 3, .bool c.set, .int .i64 c.st.1, .int .i64 c.st.2, .string c.value, .int .i64 c.num.1, .int .i64 c.num.2, .slice ae c.ents.length ce, .slice al c.elems.length cl, .slice at_ c.seen.length cs]] W fun e w' => ∃ a n m, e = .returned (.slice a n m) ∧ Ow w' (Nw No W w') 91 eEl (.slice a n m) (liveL c.elems) ∧ Frm No W w') := Lib.hid (fun W f => by rw [← hcv]; exact refLive_ok (HR.out.no f) HBB.out)
  rw [hcv]
  have HX : Hid (liveL c.elems = x :: t) := Lib.hid hx
  clear he hl hs hb hk hx hcv
  go_enter Tryz.func38, Tryz.ntmps38
  go_wp2_with (fail)
  refine (HK.out _ (((Frm.refl No w).al _).al _)).mono ?_
  rintro e w1 ⟨a1, n1, c1, rfl, o1, f1⟩
  rw [HX.out] at o1
  have D1 : w1.heap[w.heap.size + 1]? = some (.cells #[.int .i64 0, .int .i64 0] 83 (0, 0)) := f1.obj (al_at (by simp)) id
  have F1 := (((Frm.refl No w).al _).al _).trans f1
  have hn := o1.rd.facts
  have hn1 : 0 < n1 := by rw [hn.1, List.length_cons]; omega
  have hn2 : ¬ ((0 : Int) ≥ n1) := by omega
  obtain ⟨b, off, rfl, hbb, hc⟩ := o1.rd.at (i := 0) (by simp)
  have e0 : w1.cell? ⟨b, off, none⟩ = some (.int .i64 x.1) := by have := hc 0 _ rfl; simpa using this
  have e1 : w1.cell? ⟨b, off + 1, none⟩ = some (.int .i64 x.2.1) := by have := hc 1 _ rfl; simpa using this
  have nD := lt_of_block D1
  clear hc hn o1 HK f1
  go_wp2_with (refine wpList_sto (vs := [Value.int .i64 x.1, .int .i64 x.2.1]) _ rfl (.tmp 4) (.tmp 26) 83 rfl D1 (by kernel_rfl) (by rfl) (two_one _ _) rfl rfl ?_)
  intro w2 D2 f2 z2
  have p0 : w2.cell? ⟨w.heap.size + 1, 0, none⟩ = some (.int .i64 x.1) := obj_cell D2 0
  have p1 : w2.cell? ⟨w.heap.size + 1, 1, none⟩ = some (.int .i64 x.2.1) := obj_cell D2 1
  go_wp2_with (fail)
  refine bodyPost_ret (v := .tuple #[.agg #[.int .i64 x.1, .int .i64 x.2.1], .int .i64 0]) (by simp [results, Tryz.results38, go_sem, *]) rfl ?_
  exact ⟨rfl, F1.then f2 fun k hk h => by omega⟩
set_option maxHeartbeats 1000000 in
set_option maxRecDepth 100000 in
theorem refAt_none {w : World} {c : CellV} {ve vl vs : Value} (h : CellR w c ve vl vs) (hb : CellB c) (hk : c.kind = 3) (hx : (c.elems.filter fun e => !e.2.2.2.2) = []) :
    Calls Tryz.prog 38 #[cval c ve vl vs, .int .i64 0] w fun e w' => e = .returned (.tuple #[.agg #[.int .i64 0, .int .i64 0], .int .i64 1001]) ∧ Frm No w w' := by
  have HR := Lib.hid h
  have HBB := Lib.hid hb
  obtain ⟨he, hl, hs⟩ := h
  obtain ⟨ae, ce, rfl⟩ := he.sh
  obtain ⟨al, cl, rfl⟩ := hl.sh
  obtain ⟨at_, cs, rfl⟩ := hs.sh
  have hcv : cval c (.slice ae c.ents.length ce) (.slice al c.elems.length cl) (.slice at_ c.seen.length cs) = .agg #[.int .i64 3, .bool c.set, .int .i64 c.st.1, .int .i64 c.st.2, .string c.value, .int .i64 c.num.1, .int .i64 c.num.2, .slice ae c.ents.length ce, .slice al c.elems.length cl, .slice at_ c.seen.length cs] := by unfold cval; rw [hk]
  have HK : Hid (∀ W, Frm No w W → Calls Tryz.prog 57 #[.agg #[.int .i64 3, .bool c.set, .int .i64 c.st.1, .int .i64 c.st.2, .string c.value, .int .i64 c.num.1, .int .i64 c.num.2, .slice ae c.ents.length ce, .slice al c.elems.length cl, .slice at_ c.seen.length cs]] W fun e w' => ∃ a n m, e = .returned (.slice a n m) ∧ Ow w' (Nw No W w') 91 eEl (.slice a n m) (liveL c.elems) ∧ Frm No W w') := Lib.hid (fun W f => by rw [← hcv]; exact refLive_ok (HR.out.no f) HBB.out)
  rw [hcv]
  have HX : Hid (liveL c.elems = []) := Lib.hid hx
  clear he hl hs hb hk hx hcv
  go_enter Tryz.func38, Tryz.ntmps38
  go_wp2_with (fail)
  refine (HK.out _ (((Frm.refl No w).al _).al _)).mono ?_
  rintro e w1 ⟨a1, n1, c1, rfl, o1, f1⟩
  rw [HX.out] at o1
  have D1 : w1.heap[w.heap.size + 1]? = some (.cells #[.int .i64 0, .int .i64 0] 83 (0, 0)) := f1.obj (al_at (by simp)) id
  have F1 := (((Frm.refl No w).al _).al _).trans f1
  obtain rfl : n1 = 0 := o1.rd.facts.1
  clear o1 HK f1
  go_wp2_with (refine wpList_sto (vs := [Value.int .i64 0, .int .i64 0]) _ rfl (.tmp 4) (.tmp 21) 83 rfl D1 (by kernel_rfl) (by rfl) (two_one _ _) rfl rfl ?_)
  intro w2 D2 f2 z2
  have p0 : w2.cell? ⟨w.heap.size + 1, 0, none⟩ = some (.int .i64 0) := obj_cell D2 0
  have p1 : w2.cell? ⟨w.heap.size + 1, 1, none⟩ = some (.int .i64 0) := obj_cell D2 1
  go_wp2_with (fail)
  refine bodyPost_ret (v := .tuple #[.agg #[.int .i64 0, .int .i64 0], .int .i64 1001]) (by simp [results, Tryz.results38, go_sem, *]) rfl ?_
  exact ⟨rfl, F1.then f2 fun k hk h => by omega⟩
def QL (l : List El) (F : Nat → Prop) (vs : List Value) (W : World) : Prop := ∃ (a b f : Option Addr) (m n d g : Nat), vs = [.int .i64 3, .bool false, .int .i64 0, .int .i64 0, .string ⟨#[]⟩, .int .i64 0, .int .i64 0, .slice a 0 m, .slice b n d, .slice f 0 g] ∧ Hid (n = l.length) ∧ CellO W F (listC l) (.slice a 0 m) (.slice b n d) (.slice f 0 g)
theorem QL_ok (l : List El) : QOk (QL l) := ⟨fun ⟨a, b, f, m, n, d, g, h, k, o⟩ fr hd => ⟨a, b, f, m, n, d, g, h, k, o.frm fr hd⟩, fun ⟨a, b, f, m, n, d, g, h, k, o⟩ hs => ⟨a, b, f, m, n, d, g, h, k, o.mono hs⟩⟩
theorem list_putR {wr : World} {l : List El} {i : Nat} {a b f : Option Addr} {n m d g : Nat} {F : Nat → Prop} (O : CellO wr F (listC l) (.slice a 0 m) (.slice b n d) (.slice f 0 g)) (hb : l.length ≤ 100000) (hI : IncL l i) (hi : i ≤ 65537) (x : ByteArray) (hx : x.size ≤ maxLen) (hd : dashB x = false) {dl : Dt} (hdl : Hid (dl = lastD l)) :
    ∃ E Q, QOk Q ∧ ((E = 0 ∧ ∃ l', listS i l x = some l' ∧ Q = QL l' ∧ lastD l' = (0, (i : Int) + 1)) ∨ (E = 1000 ∧ listS i l x = none)) ∧ ∀ W, Frm No wr W → Calls Tryz.prog 40 #[.agg #[.int .i64 3, .bool false, .int .i64 0, .int .i64 0, .string ⟨#[]⟩, .int .i64 0, .int .i64 0, .slice a 0 m, .slice b n d, .slice f 0 g], .agg #[.int .i64 0, .int .i64 ((i : Int) + 1), .int .i64 ((i : Int) + 1), .string x, .bool false], .agg #[.int .i64 dl.1, .int .i64 dl.2]] W (Ten E Q W) := by
  by_cases h6 : x.size ≤ 256
  · refine ⟨0, QL (l ++ [newEl i x]), QL_ok _, .inl ⟨rfl, _, listS_put hd h6, rfl, by rw [last_new]; rfl⟩, fun W fr => ?_⟩
    have h := (O.frm fr fun k _ h => h).rd
    refine (list_insR h (by omega) hI hi h6 hdl (l.length + 1) rfl).mono ?_
    rintro e w' ⟨a', m', b', d', f', g', rfl, o, fr⟩
    exact ⟨_, rfl, list_one a' b' f' m' _ d' g', rfl, ⟨a', b', f', m', _, d', g', rfl, Lib.hid (by simp), o⟩, fr⟩
  · refine ⟨1000, QN, QN_ok, .inr ⟨rfl, listS_bad hd h6⟩, fun W fr => ?_⟩
    have h := (O.frm fr fun k _ h => h).rd
    refine (list_insRB h (by omega) hi (by omega) dl).mono ?_
    rintro e w' ⟨ve, vl, vs, rfl, o, fr⟩
    obtain ⟨a3, m3, b3, d3, f3, g3, rfl, rfl, rfl⟩ := list_sh (l := []) (n' := 0) (w := w') (F := Nw No W w') ⟨o.e, o.l, o.s⟩ rfl
    refine ⟨[.int .i64 0, .bool false, .int .i64 0, .int .i64 0, .string ⟨#[]⟩, .int .i64 0, .int .i64 0, .slice a3 0 m3, .slice b3 0 d3, .slice f3 0 g3], rfl, ?_, rfl, trivial, fr⟩
    intro u hu
    simp only [List.mem_cons, List.not_mem_nil, or_false] at hu
    rcases hu with rfl | rfl | rfl | rfl | rfl | rfl | rfl | rfl | rfl | rfl <;> rfl
theorem listT_no {ws : List ByteArray} (h : listR ws = ([], 1000)) : (⟨(listT ws).toArray⟩ : ByteArray) = errB 1000 := by
  rw [(listR_r ws).2, h]; rfl
theorem listT_yes {ws : List ByteArray} {t : List UInt8} (h : listR ws = (t, 0)) : listT ws = t := by
  rw [(listR_r ws).2, h]; rfl
set_option maxHeartbeats 16000000 in
set_option maxRecDepth 100000 in
theorem lawListed_ok {w : World} {a : Option Addr} {n c : Nat} {ws : List ByteArray} (h : RdS w eStr (.slice a n c) ws) (hw : wsz ws ≤ 65537) (hne : ∀ v ∈ ws, v.data.toList ≠ []) :
    Calls Tryz.prog 24 #[.slice a n c] w fun e w' => e = .returned (.string ⟨(listT ws).toArray⟩) ∧ Frm No w w' := by
  have hn := h.facts
  have HN := Lib.hid hn.1
  have R1 := Lib.hid h
  have HW := Lib.hid hw
  have HNE := Lib.hid hne
  have hle : n ≤ 65537 := by have := wsz_len ws; omega
  clear h hn hw hne
  obtain ⟨R, hR⟩ : ∃ R : ByteArray, Hid (R = ⟨(listT ws).toArray⟩) := ⟨_, Lib.hid rfl⟩
  rw [← hR.out]
  go_enter Tryz.func24, Tryz.ntmps24
  go_wp2_with (fail)
  go_loopg [5] (n + 1) (fun gg iv wr => ∃ (i : Nat) (l : List El) (a1 b1 f1 : Option Addr) (n1 m1 d1 g1 : Nat) (dl : Dt), iv = .int .i64 i ∧ i ≤ n ∧ gg = n - i + 1 ∧ Frm No w wr ∧
    wr.heap[w.heap.size]? = some (.cells #[.int .i64 3, .bool false, .int .i64 0, .int .i64 0, .string ⟨#[]⟩, .int .i64 0, .int .i64 0, .slice a1 0 m1, .slice b1 n1 d1, .slice f1 0 g1] 75 (0, 0)) ∧
    wr.heap[w.heap.size + 1]? = some (.cells #[.int .i64 dl.1, .int .i64 dl.2] 83 (0, 0)) ∧ Hid (dl = lastD l) ∧ Hid (n1 = l.length) ∧
    CellO wr (fun k => w.heap.size + 2 ≤ k) (listC l) (.slice a1 0 m1) (.slice b1 n1 d1) (.slice f1 0 g1) ∧ ListW ws i l)
  case atStart => exact ⟨0, [], none, none, none, 0, 0, 0, 0, (0, 0), rfl, Nat.zero_le _, by omega, ((Frm.refl No w).al _).al _, al_old (heap_alloc_new w _), al_at (by simp), Lib.hid rfl, Lib.hid rfl, ⟨Ow.nil _ _ _ _ _, Ow.nil _ _ _ _ _, Ow.nil _ _ _ _ _⟩, ListW.nil ws⟩
  case round =>
    obtain ⟨i, l, a1, b1, f1, n1, m1, d1, g1, dl, rfl, hi, hg, F, B, D, hdl, hn1, O, S⟩ := hrel
    have hG := Lib.hid hg
    have nB := lt_of_block B
    have nD := lt_of_block D
    have HS := Lib.hid S
    have hll : l.length ≤ 100000 := by have := S.len; omega
    obtain ⟨q0, q1, q2, q3, q4, q5, q6, q7, q8, q9⟩ := obj10 B
    have r0 : wr.cell? ⟨w.heap.size + 1, 0, none⟩ = some (.int .i64 dl.1) := obj_cell D 0
    have r1 : wr.cell? ⟨w.heap.size + 1, 1, none⟩ = some (.int .i64 dl.2) := obj_cell D 1
    clear hg S
    by_cases hlt : i < n
    · have l1 : i < ws.length := by rw [← HN.out]; exact hlt
      obtain ⟨b, off, rfl, hbb, hc⟩ := (R1.out.no F).at l1
      have e0 : wr.cell? ⟨b, off + i, none⟩ = some (.string ws[i]) := by have := hc 0 _ rfl; rwa [show off + (i * eStr.k + 0) = off + i from by show off + (i * 1 + 0) = off + i; omega] at this
      have hxw := wsz_at l1
      have hxp := size_pos_of (HNE.out _ (List.getElem_mem l1))
      clear hc
      obtain ⟨x, hx⟩ : ∃ x, Hid (x = ws[i]) := ⟨_, Lib.hid rfl⟩
      rw [← hx.out] at e0 hxw hxp
      have hxm : x.size ≤ 65537 := by have := HW.out; omega
      clear hxw
      have hb : ((x[0].toNat : Int) == 45) = dashB x := by
        rw [dash_head hxp, Bool.eq_iff_iff, beq_iff_eq, beq_iff_eq]
        exact ⟨fun h => UInt8.toNat.inj (by show x[0].toNat = 45; omega), fun h => by rw [h]; rfl⟩
      cases hd : dashB x with
      | true =>
        rw [hd] at hb
        have HS1 := Lib.hid (HS.out.step l1 (by rw [← hx.out]; exact listS_dash hd))
        clear hd
        rcases hfl : l.filter (fun e => !e.2.2.2.2) with _ | ⟨y, t⟩
        · have hA := Lib.hid (fun W (f : Frm No wr W) => refAt_none ((O.frm f fun k _ h => h).rd) (listC_b (by omega : l.length ≤ 1000000)) rfl hfl)
          rw [era_none hfl] at HS1
          clear hfl
          go_wp2_with (fail)
          refine (hA.out _ (Frm.refl _ _)).mono ?_
          rintro e w2 ⟨rfl, f2⟩
          have B2 := f2.obj B id
          have D2 := f2.obj D id
          have F2 := F.trans f2
          go_wp2_with (fail)
          go_roundg (n - (i + 1) + 1)
          case measure => have := hG.out; omega
          case rel => exact ⟨i + 1, l, a1, b1, f1, n1, m1, d1, g1, dl, by go_num, by omega, rfl, F2.al _, al_old B2, al_old D2, hdl, hn1, (O.frm f2 fun k _ h => h).frm (Frm.alloc No w2 _) fun k _ h => h, HS1.out⟩
        · have hA := Lib.hid (fun W (f : Frm No wr W) => refAt_ok ((O.frm f fun k _ h => h).rd) (listC_b (by omega : l.length ≤ 1000000)) rfl hfl)
          have hE := Lib.hid (fun W (f : Frm No wr W) => list_eraR ((O.frm f fun k _ h => h).rd) (by omega : l.length ≤ 1000000) HS.out.inc hfl n1 hn1.out)
          clear hfl
          go_wp2_with (fail)
          refine (hA.out _ (Frm.refl _ _)).mono ?_
          rintro e w2 ⟨rfl, f2⟩
          have B2 := f2.obj B id
          have D2 := f2.obj D id
          have F2 := F.trans f2
          have nB2 := lt_of_block B2
          clear q0 q1 q2 q3 q4 q5 q6 q7 q8 q9 r0 r1 e0
          obtain ⟨q0, q1, q2, q3, q4, q5, q6, q7, q8, q9⟩ := obj10 B2
          go_wp2_with (fail)
          refine (hE.out _ (f2.al _)).mono ?_
          rintro e w3 ⟨a3, m3, b3, d3, f3, g3, rfl, o3, f3'⟩
          have B3 := f3'.obj (al_old B2) id
          have D3 := f3'.obj (al_old D2) id
          have F3 := (F2.al _).trans f3'
          have nB3 := lt_of_block B3
          have z3 := f3'.size
          have z2 := f2.size
          clear q0 q1 q2 q3 q4 q5 q6 q7 q8 q9 hA hE
          have T3 := heap_alloc_new w3 (.cells #[.int .i64 3, .bool false, .int .i64 0, .int .i64 0, .string ⟨#[]⟩, .int .i64 0, .int .i64 0, .slice a3 0 m3, .slice b3 n1 d3, .slice f3 0 g3] 75 (0, 0))
          obtain ⟨q0, q1, q2, q3, q4, q5, q6, q7, q8, q9⟩ := obj10 T3
          go_wp2_with (refine wpList_sto _ rfl (.tmp 3) (.tmp 42) 75 rfl (al_old B3) (by kernel_rfl) (by rfl) (list_one a3 b3 f3 m3 n1 d3 g3) rfl rfl ?_)
          intro w4 B4 f4 z4
          have D4 := f4.obj (al_old D3) (by omega)
          go_wp2_with (fail)
          go_roundg (n - (i + 1) + 1)
          case measure => have := hG.out; omega
          case rel => exact ⟨i + 1, eraFst l, a3, b3, f3, n1, m3, d3, g3, dl, by go_num, by omega, rfl, (F3.al _).then f4 fun k hk h => by omega, B4, D4, Lib.hid (by rw [hdl.out, era_last]), Lib.hid (by rw [hn1.out, era_len]), ((o3.mono (G := fun k => w.heap.size + 2 ≤ k) fun k hk h => by rcases h with h | h; exact h.elim; have := h.1; simp at this; omega).frm (Frm.alloc No w3 _) fun k _ h => h).frm f4 fun k h e => by omega, HS1.out⟩
      | false =>
        rw [hd] at hb
        obtain ⟨E, Q, hQ, hres, hput⟩ := list_putR O hll HS.out.inc (by omega : i ≤ 65537) x (by unfold maxLen; omega) hd hdl
        have HQ := Lib.hid hQ
        have HRES := Lib.hid hres
        have HP0 := Lib.hid hput
        clear hd hQ hres hput
        go_wp2_with (fail)
        go_upto_region 12 with fail
        obtain ⟨wq, hwq⟩ : ∃ wq, wq = wr.alloc (.cells #[.int .i64 0, .int .i64 ((i : Int) + 1)] 83 (0, 0)) := ⟨_, rfl⟩
        have Fq : Frm No wr wq := by rw [hwq]; exact (Frm.refl No wr).al _
        have Bq : wq.heap[w.heap.size]? = some (.cells #[.int .i64 3, .bool false, .int .i64 0, .int .i64 0, .string ⟨#[]⟩, .int .i64 0, .int .i64 0, .slice a1 0 m1, .slice b1 n1 d1, .slice f1 0 g1] 75 (0, 0)) := by rw [hwq]; exact al_old B
        have Dq : wq.heap[w.heap.size + 1]? = some (.cells #[.int .i64 dl.1, .int .i64 dl.2] 83 (0, 0)) := by rw [hwq]; exact al_old D
        have Tq : wq.heap[wr.heap.size]? = some (.cells #[.int .i64 0, .int .i64 ((i : Int) + 1)] 83 (0, 0)) := by rw [hwq]; exact heap_alloc_new wr _
        have e0q : wq.cell? ⟨b, off + i, none⟩ = some (.string x) := (Fq.cell hbb id).trans e0
        rw [← hwq]
        clear hwq q0 q1 q2 q3 q4 q5 q6 q7 q8 q9 r0 r1 e0 nB nD
        have HP := Lib.hid (fun W (f : Frm No wq W) => HP0.out W (Fq.trans f))
        clear HP0
        obtain ⟨gq, hgq⟩ : ∃ gq, Hid (gq = wr.heap.size) := ⟨_, Lib.hid rfl⟩
        rw [← hgq.out] at Tq ⊢
        have hgw : w.heap.size + 2 ≤ gq := by rw [hgq.out]; have := lt_of_block D; omega
        have FFq := F.trans Fq
        clear B D O Fq F
        obtain ⟨wr, hwr⟩ : ∃ wr, wr = wq := ⟨_, rfl⟩
        rw [← hwr] at Bq Dq Tq e0q HP FFq ⊢
        clear hwr
        have nB := lt_of_block Bq
        have nD := lt_of_block Dq
        have nT := lt_of_block Tq
        have hbq : b < wr.heap.size := World.block_lt_of_cell? _ _ e0q
        obtain ⟨q0, q1, q2, q3, q4, q5, q6, q7, q8, q9⟩ := obj10 Bq
        have r0 : wr.cell? ⟨w.heap.size + 1, 0, none⟩ = some (.int .i64 dl.1) := obj_cell Dq 0
        have r1 : wr.cell? ⟨w.heap.size + 1, 1, none⟩ = some (.int .i64 dl.2) := obj_cell Dq 1
        have t0 : wr.cell? ⟨gq, 0, none⟩ = some (.int .i64 0) := obj_cell Tq 0
        have t1 : wr.cell? ⟨gq, 1, none⟩ = some (.int .i64 ((i : Int) + 1)) := obj_cell Tq 1
        go_cut [11, 12] (fun dv ev wx => ∃ (g : Nat) (vs : List Value), dv = .pointer (some ⟨g, 0, none⟩) ∧ ev = .int .i64 E ∧ vs.length = 10 ∧ (∀ u ∈ vs, u.oneCell' = true) ∧ wx.heap[g]? = some (.cells vs.toArray 75 (0, 0)) ∧ Q (fun k => w.heap.size + 2 ≤ k ∧ k ≠ g) vs wx ∧ Frm No wr wx ∧ wr.heap.size ≤ g)
        case first =>
          refine wp_region_fork (.seg [0, 1, 2, 4, 5, 6, 7, 9] [] (.fork 3 [9, 7, 1, 0] (.fork 8 [9, 0] (.fork 10 [] (.seg [11, 12, 13, 14] [] (.seg [15] [] (.seg [16] [] .nil))) 14 [9, 0] (.seg [10] [] (.seg [11, 12, 13, 15] [] (.seg [16] [] .nil)))) 14 [9, 7, 1, 0] (.seg [8] [9, 0] (.seg [10] [] (.seg [11, 12, 13, 15] [] (.seg [16] [] .nil))))) 14 [9, 7, 1, 0] (.seg [3] [9, 7, 1, 0] (.seg [8] [9, 0] (.seg [10] [] (.seg [11, 12, 13, 15] [] (.seg [16] [] .nil))))))) 74 (by kernel_rfl) (by kernel_rfl) (by simp) ?_
          intro N hN
          simp only [wpST, wpSg, List.map_cons, List.map_nil, List.getD_cons_zero, List.getD_cons_succ]
          go_wp2_with (fail)
          refine ⟨?_, ?_⟩
          · go_wp2_with (fail)
            refine ⟨again_cons (again_of rfl rfl ?_) (again_cons (again_of rfl rfl ?_) (again_cons (again_of rfl rfl ?_) (again_cons (again_of rfl rfl ?_) again_nil))), ?_⟩
            · go_simp
            · go_simp
            · go_simp
            · go_simp
            refine ⟨?_, ?_⟩
            · go_wp2_with (fail)
              refine ⟨again_cons (again_of rfl rfl ?_) (again_cons (again_of rfl rfl ?_) again_nil), ?_⟩
              · go_simp
              · go_simp
              refine ⟨?_, ?_⟩
              · go_wp2_with (fail)
                refine (HP.out _ (Frm.drew No wr)).mono ?_
                rintro e w1 ⟨vs, hl, ho, rfl, hq, f1⟩
                have s1 := f1.size
                go_wp2_with (refine wpList_sto (vs := vs) _ rfl (.tmp 11) (.tmp 58) 75 rfl (heap_alloc_new w1 _) (by rw [hl]; kernel_rfl) (by rw [hl]; rfl) ho rfl rfl ?_)
                intro w2 T2 f2 z2
                go_wp2_with (fail)
                go_meet
                exact ⟨_, vs, rfl, rfl, hl, ho, T2, HQ.out.frm (HQ.out.frm (HQ.out.mono hq fun k hk h => by rcases h with h | h; exact h.elim; have := h.1; simp at this; omega) (Frm.alloc No w1 _) fun k _ h => h) f2 fun k hk e => hk.2 e, ((((Frm.drew No wr).trans f1).al _).then f2 fun k hk h => by have := f1.size; simp at this; omega), s1⟩
              · go_wp2_with (fail)
                refine ⟨again_cons (again_of rfl rfl ?_) (again_cons (again_of rfl rfl ?_) again_nil), ?_⟩
                · go_simp
                · go_simp
                go_wp2_with (fail)
                refine (HP.out _ (((Frm.refl No wr).al _).trans (Frm.drew No _))).mono ?_
                rintro e w1 ⟨vs, hl, ho, rfl, hq, f1⟩
                have T1 := f1.obj (heap_alloc_new wr (.cells #[.int .i64 0, .bool false, .int .i64 0, .int .i64 0, .string ⟨#[]⟩, .int .i64 0, .int .i64 0, .slice none 0 0, .slice none 0 0, .slice none 0 0] 75 (0, 0))) id
                have s1 := f1.size
                simp only [World.size_drew, World.size_alloc] at s1
                go_wp2_with (refine wpList_sto (vs := vs) _ rfl (.tmp 11) (.tmp 58) 75 rfl T1 (by rw [hl]; kernel_rfl) (by rw [hl]; rfl) ho rfl rfl ?_)
                intro w2 T2 f2 z2
                go_wp2_with (fail)
                go_meet
                exact ⟨_, vs, rfl, rfl, hl, ho, T2, HQ.out.frm (HQ.out.mono hq fun k hk h => by rcases h with h | h; exact h.elim; have := h.1; simp at this; omega) f2 fun k hk e => hk.2 e, ((((Frm.refl No wr).al _).trans (Frm.drew No _)).trans f1).then f2 fun k hk h => by omega, Nat.le_refl _⟩
            · go_wp2_with (fail)
              refine ⟨again_cons (again_of rfl rfl ?_) (again_cons (again_of rfl rfl ?_) (again_cons (again_of rfl rfl ?_) (again_cons (again_of rfl rfl ?_) again_nil))), ?_⟩
              · go_simp
              · go_simp
              · go_simp
              · go_simp
              go_wp2_with (fail)
              refine ⟨again_cons (again_of rfl rfl ?_) (again_cons (again_of rfl rfl ?_) again_nil), ?_⟩
              · go_simp
              · go_simp
              go_wp2_with (fail)
              refine (HP.out _ (((Frm.refl No wr).al _).trans (Frm.drew No _))).mono ?_
              rintro e w1 ⟨vs, hl, ho, rfl, hq, f1⟩
              have T1 := f1.obj (heap_alloc_new wr (.cells #[.int .i64 0, .bool false, .int .i64 0, .int .i64 0, .string ⟨#[]⟩, .int .i64 0, .int .i64 0, .slice none 0 0, .slice none 0 0, .slice none 0 0] 75 (0, 0))) id
              have s1 := f1.size
              simp only [World.size_drew, World.size_alloc] at s1
              go_wp2_with (refine wpList_sto (vs := vs) _ rfl (.tmp 11) (.tmp 58) 75 rfl T1 (by rw [hl]; kernel_rfl) (by rw [hl]; rfl) ho rfl rfl ?_)
              intro w2 T2 f2 z2
              go_wp2_with (fail)
              go_meet
              exact ⟨_, vs, rfl, rfl, hl, ho, T2, HQ.out.frm (HQ.out.mono hq fun k hk h => by rcases h with h | h; exact h.elim; have := h.1; simp at this; omega) f2 fun k hk e => hk.2 e, ((((Frm.refl No wr).al _).trans (Frm.drew No _)).trans f1).then f2 fun k hk h => by omega, Nat.le_refl _⟩
          · go_wp2_with (fail)
            refine ⟨again_cons (again_of rfl rfl ?_) (again_cons (again_of rfl rfl ?_) (again_cons (again_of rfl rfl ?_) (again_cons (again_of rfl rfl ?_) again_nil))), ?_⟩
            · go_simp
            · go_simp
            · go_simp
            · go_simp
            go_wp2_with (fail)
            refine ⟨again_cons (again_of rfl rfl ?_) (again_cons (again_of rfl rfl ?_) (again_cons (again_of rfl rfl ?_) (again_cons (again_of rfl rfl ?_) again_nil))), ?_⟩
            · go_simp
            · go_simp
            · go_simp
            · go_simp
            go_wp2_with (fail)
            refine ⟨again_cons (again_of rfl rfl ?_) (again_cons (again_of rfl rfl ?_) again_nil), ?_⟩
            · go_simp
            · go_simp
            go_wp2_with (fail)
            refine (HP.out _ (((Frm.refl No wr).al _).trans (Frm.drew No _))).mono ?_
            rintro e w1 ⟨vs, hl, ho, rfl, hq, f1⟩
            have T1 := f1.obj (heap_alloc_new wr (.cells #[.int .i64 0, .bool false, .int .i64 0, .int .i64 0, .string ⟨#[]⟩, .int .i64 0, .int .i64 0, .slice none 0 0, .slice none 0 0, .slice none 0 0] 75 (0, 0))) id
            have s1 := f1.size
            simp only [World.size_drew, World.size_alloc] at s1
            go_wp2_with (refine wpList_sto (vs := vs) _ rfl (.tmp 11) (.tmp 58) 75 rfl T1 (by rw [hl]; kernel_rfl) (by rw [hl]; rfl) ho rfl rfl ?_)
            intro w2 T2 f2 z2
            go_wp2_with (fail)
            go_meet
            exact ⟨_, vs, rfl, rfl, hl, ho, T2, HQ.out.frm (HQ.out.mono hq fun k hk h => by rcases h with h | h; exact h.elim; have := h.1; simp at this; omega) f2 fun k hk e => hk.2 e, ((((Frm.refl No wr).al _).trans (Frm.drew No _)).trans f1).then f2 fun k hk h => by omega, Nat.le_refl _⟩
        case rest =>
          obtain ⟨g, vs, rfl, rfl, hl, ho, T, hq, f, hgw2⟩ := hcut
          have B2 := f.obj Bq id
          have D2 := f.obj Dq id
          have T2 := f.obj Tq id
          have F2 := FFq.trans f
          have nB2 := lt_of_block B2
          have nTT := lt_of_block T
          clear q0 q1 q2 q3 q4 q5 q6 q7 q8 q9 r0 r1 t0 t1 e0q
          rcases HRES.out with ⟨rfl, l', hs', rfl, hlast⟩ | ⟨rfl, hs'⟩
          · obtain ⟨a3, b3, f3, m3, n3, d3, g3, rfl, hn3, o3⟩ := hq
            have HS1 := Lib.hid (HS.out.step l1 (by rw [← hx.out]; exact hs'))
            have HLA := Lib.hid hlast
            obtain ⟨q0, q1, q2, q3, q4, q5, q6, q7, q8, q9⟩ := obj10 T
            clear hl ho hlast
            go_wp2_with (refine wpList_sto _ rfl (.tmp 3) (.tmp 65) 75 rfl B2 (by kernel_rfl) (by rfl) (list_one a3 b3 f3 m3 n3 d3 g3) rfl rfl ?_)
            intro w4 B4 f4 z4
            have D4 := f4.obj D2 (by omega)
            have T4 := f4.obj T2 (by omega)
            have nT4 := lt_of_block T4
            have t0 : w4.cell? ⟨gq, 0, none⟩ = some (.int .i64 0) := obj_cell T4 0
            have t1 : w4.cell? ⟨gq, 1, none⟩ = some (.int .i64 ((i : Int) + 1)) := obj_cell T4 1
            go_wp2_with (refine wpList_sto (vs := [Value.int .i64 0, .int .i64 ((i : Int) + 1)]) _ rfl (.tmp 4) (.tmp 66) 83 rfl D4 (by kernel_rfl) (by rfl) (two_one _ _) rfl rfl ?_)
            intro w5 D5 f5 z5
            have B5 := f5.obj B4 (by omega)
            go_wp2_with (fail)
            go_roundg (n - (i + 1) + 1)
            case measure => have := hG.out; omega
            case rel => exact ⟨i + 1, l', a3, b3, f3, n3, m3, d3, g3, (0, (i : Int) + 1), by go_num, by omega, rfl, (F2.then f4 fun k hk h => by omega).then f5 fun k hk h => by omega, B5, D5, Lib.hid HLA.out.symm, hn3, ((o3.mono (G := fun k => w.heap.size + 2 ≤ k) fun k hk h => h.1).frm f4 fun k h e => by omega).frm f5 fun k h e => by omega, HS1.out⟩
          · have HR := Lib.hid (hR.out.trans (listT_no (HS.out.no l1 (by rw [← hx.out]; exact hs'))))
            obtain ⟨dk, hdk⟩ : ∃ dk : ByteArray, Hid (dk = ⟨(Lib.decDigits 1000).toArray⟩) := ⟨_, Lib.hid rfl⟩
            have HDC := fun W => refDecimal_ok 1000 (by decide) W
            rw [← hdk.out] at HDC
            have HDC := Lib.hid HDC
            have HE : Hid ((⟨#[101, 114, 114, 111, 114, 32]⟩ : ByteArray) ++ dk = errB 1000) := Lib.hid (by rw [hdk.out]; exact err_ba 1000)
            have hds : dk.size ≤ 21 := by rw [hdk.out]; exact dec_sz (by decide)
            clear hl ho hq
            go_wp2_with (fail)
            refine (HDC.out _).mono ?_
            rintro e w3 ⟨rfl, f3⟩
            go_wp2_with (fail)
            go_ret
            rw [HR.out]
            exact ⟨by rw [← HE.out]; rfl, F2.trans f3⟩
    · have hii : ¬ ((i : Int) < n) := by omega
      have hfin := HS.out.fin (by rw [← HN.out]; omega)
      have hT := listT_yes hfin
      have HR : Hid ((⟨(joinT (valsL l) [32]).toArray⟩ : ByteArray) = R) := Lib.hid (by rw [hR.out, hT])
      have hwz := HS.out.sz
      have HV := Lib.hid (refListValues_ok O.rd (listC_b (by omega : l.length ≤ 1000000)) rfl)
      have HWZ : wsz (valsL l) ≤ 4611686018427 := by omega
      clear hwz hfin hT
      go_wp2_with (fail)
      refine HV.out.mono ?_
      rintro e w2 ⟨a2, n2, m2, rfl, o2, f2⟩
      have R2 : RdS w2 eStr (.slice a2 n2 m2) (valsL l) := o2.rd
      clear o2
      go_wp2_with (fail)
      refine (lawLine_ok R2 HWZ).mono ?_
      rintro e w3 ⟨rfl, rfl⟩
      go_wp2_with (fail)
      go_ret
      rw [HR.out]
      exact ⟨rfl, F.trans f2⟩
end Go.Proofs.YtgpdpalhkkjmiaaGreatDoor

/- ConsoleRuns: the law's told. -/
namespace Go.Proofs.YtgpdpalhkkjmiaaGreatDoor
set_option linter.unusedVariables false
set_option linter.unusedSimpArgs false
open Go.RowKit Go.Lib Go.Tt Go.Shelf
theorem cmd_eq2 {w : ByteArray} {l : List UInt8} {b : Bool} (h : (w.data.toList == l) = b) : (w.toList == l) = b := by rw [ByteArray.toList_eq]; exact h
set_option maxHeartbeats 4000000 in
set_option maxRecDepth 100000 in
theorem lawTold_ok {w : World} {a : Option Addr} {n c : Nat} {wd : ByteArray} {ws : List ByteArray} (h : RdS w eStr (.slice a n c) (wd :: ws)) (hw : wsz (wd :: ws) ≤ 65537) (hne : ∀ v ∈ wd :: ws, v.data.toList ≠ []) :
    Calls Tryz.prog 13 #[.slice a n c] w fun e w' => e = .returned (.string ⟨(tellL wd.data.toList ws).toArray⟩) ∧ Frm No w w' := by
  have hn := h.facts
  have hn0 : 0 < n := by rw [hn.1, List.length_cons]; omega
  obtain ⟨b, off, rfl, hbb, hc⟩ := h.at (i := 0) (by simp)
  have e0 : w.cell? ⟨b, off, none⟩ = some (.string wd) := by have := hc 0 _ rfl; simpa using this
  have hw' : wsz ws ≤ 65537 := by unfold wsz at hw; omega
  have hne' : ∀ v ∈ ws, v.data.toList ≠ [] := fun v hv => hne v (List.mem_cons_of_mem _ hv)
  obtain ⟨off', hoff⟩ : ∃ o, Hid (o = if c = 1 then off else off + 1) := ⟨_, Lib.hid rfl⟩
  obtain ⟨n', hn'⟩ : ∃ o, Hid (o = n - 1) := ⟨_, Lib.hid rfl⟩
  obtain ⟨c', hc'⟩ : ∃ o, Hid (o = c - 1) := ⟨_, Lib.hid rfl⟩
  have hsl := fun W => run_rest W (b := b) (off := off) (n := n) (c := c) hn0 hn.2.1
  have hrd := rd_rest h
  rw [← hoff.out, ← hn'.out, ← hc'.out] at hsl hrd
  have C0 := Lib.hid (lawPaired_ok hrd hw')
  have C1 := Lib.hid (lawSummed_ok hrd hw')
  have C2 := Lib.hid (lawSetted_ok hrd hw' hne')
  have C3 := Lib.hid (lawListed_ok hrd hw' hne')
  clear hc hn h hw hrd hw' hne hne'
  obtain ⟨T, hT⟩ : ∃ T, Hid (T = tellL wd.data.toList ws) := ⟨_, Lib.hid rfl⟩
  rw [← hT.out]
  cases h0 : wd.data.toList == nPair with
  | true =>
    have q0 : (wd.toList == [112, 97, 105, 114]) = true := cmd_eq2 h0
    have HR : Hid (T = pairT ws) := Lib.hid (by rw [hT.out]; unfold tellL; rw [h0]; rfl)
    clear h0
    go_enter Tryz.func13, Tryz.ntmps13
    go_wp2_with (fail)
    refine C0.out.mono ?_
    rintro e w1 ⟨rfl, f1⟩
    go_wp2_with (fail)
    go_ret
    rw [HR.out]
    exact ⟨rfl, f1⟩
  | false =>
    have q0 : (wd.toList == [112, 97, 105, 114]) = false := cmd_eq2 h0
    cases h1 : wd.data.toList == nSum with
    | true =>
      have q1 : (wd.toList == [115, 117, 109]) = true := cmd_eq2 h1
      have HR : Hid (T = sumT ws) := Lib.hid (by rw [hT.out]; unfold tellL; rw [h0, h1]; rfl)
      clear h0 h1
      go_enter Tryz.func13, Tryz.ntmps13
      go_wp2_with (fail)
      refine C1.out.mono ?_
      rintro e w1 ⟨rfl, f1⟩
      go_wp2_with (fail)
      go_ret
      rw [HR.out]
      exact ⟨rfl, f1⟩
    | false =>
      have q1 : (wd.toList == [115, 117, 109]) = false := cmd_eq2 h1
      cases h2 : wd.data.toList == nSet with
      | true =>
        have q2 : (wd.toList == [115, 101, 116]) = true := cmd_eq2 h2
        have HR : Hid (T = setT ws) := Lib.hid (by rw [hT.out]; unfold tellL; rw [h0, h1, h2]; rfl)
        clear h0 h1 h2
        go_enter Tryz.func13, Tryz.ntmps13
        go_wp2_with (fail)
        refine C2.out.mono ?_
        rintro e w1 ⟨rfl, f1⟩
        go_wp2_with (fail)
        go_ret
        rw [HR.out]
        exact ⟨rfl, f1⟩
      | false =>
        have q2 : (wd.toList == [115, 101, 116]) = false := cmd_eq2 h2
        cases h3 : wd.data.toList == nList with
        | true =>
          have q3 : (wd.toList == [108, 105, 115, 116]) = true := cmd_eq2 h3
          have HR : Hid (T = listT ws) := Lib.hid (by rw [hT.out]; unfold tellL; rw [h0, h1, h2, h3]; rfl)
          clear h0 h1 h2 h3
          go_enter Tryz.func13, Tryz.ntmps13
          go_wp2_with (fail)
          refine C3.out.mono ?_
          rintro e w1 ⟨rfl, f1⟩
          go_wp2_with (fail)
          go_ret
          rw [HR.out]
          exact ⟨rfl, f1⟩
        | false =>
          have q3 : (wd.toList == [108, 105, 115, 116]) = false := cmd_eq2 h3
          have HR : Hid ((⟨T.toArray⟩ : ByteArray) = badS) := Lib.hid (by rw [hT.out]; unfold tellL; rw [h0, h1, h2, h3]; exact badS_is)
          clear h0 h1 h2 h3
          go_enter Tryz.func13, Tryz.ntmps13
          go_wp2_with (fail)
          go_ret
          rw [HR.out]
          exact ⟨rfl, Frm.refl _ _⟩
end Go.Proofs.YtgpdpalhkkjmiaaGreatDoor

/- ConsoleRuns (printed by gen_lcr.py). -/
namespace Go.Proofs.YtgpdpalhkkjmiaaGreatDoor
set_option linter.unusedVariables false
set_option linter.unusedSimpArgs false
open Go.RowKit Go.Lib Go.Tt Go.Shelf Go.WideShapes
def lnB (i : Nat) : Nat := i * 16900001
theorem lnB_succ (i : Nat) : lnB (i + 1) = lnB i + 16900001 := by unfold lnB; rw [Nat.succ_mul]
theorem lnB_le {i : Nat} (h : i ≤ 65537) : lnB i ≤ 1110000000000 := by unfold lnB; exact Nat.le_trans (Nat.mul_le_mul_right _ h) (by decide)
/-- The lines so far: what they tell. -/
def LnW (l : List UInt8) (i a : Nat) (o : List UInt8) : Prop := o.length ≤ lnB i ∧ ((i ≤ l.length ∧ a ≤ i ∧ runL l = o ++ (linesG ((l.take i).drop a) (l.drop i)).flatMap lineT) ∨ (i = l.length + 1 ∧ runL l = o))
theorem LnW.nil (l : List UInt8) : LnW l 0 0 [] := ⟨Nat.zero_le _, .inl ⟨Nat.zero_le _, Nat.le_refl _, rfl⟩⟩
theorem LnW.at_ {l : List UInt8} {i a : Nat} {o : List UInt8} (h : LnW l i a o) (hi : i ≤ l.length) : a ≤ i ∧ runL l = o ++ (linesG ((l.take i).drop a) (l.drop i)).flatMap lineT := by
  rcases h.2 with h | h
  · exact h.2
  · omega
theorem LnW.next {l : List UInt8} {i a : Nat} {o : List UInt8} (h : LnW l i a o) (hi : i < l.length) (hb : ((l[i]).toNat == 10) = false) : LnW l (i + 1) a o := by
  obtain ⟨h1, h2⟩ := h.at_ (by omega)
  refine ⟨by rw [lnB_succ]; have := h.1; omega, .inl ⟨hi, by omega, ?_⟩⟩
  rw [h2, List.drop_eq_getElem_cons hi]
  show o ++ (if (l[i]).toNat == 10 then _ else linesG ((l.take i).drop a ++ [l[i]]) (l.drop (i + 1))).flatMap lineT = _
  rw [hb, if_neg (by decide), List.take_succ_eq_append_getElem hi, List.drop_append_of_le_length (by rw [List.length_take]; omega)]
theorem LnW.part {l : List UInt8} {i a : Nat} {o : List UInt8} (h : LnW l i a o) (hi : i ≤ l.length) (hl : l.length ≤ 65536) (he : i = l.length ∨ ∃ h : i < l.length, ((l[i]).toNat == 10) = true) : LnW l (i + 1) (i + 1) (o ++ lineT ((l.take i).drop a)) := by
  obtain ⟨h1, h2⟩ := h.at_ hi
  have hc := lineT_len (l := (l.take i).drop a) (by rw [List.length_drop, List.length_take]; omega)
  refine ⟨by rw [List.length_append, lnB_succ]; have := h.1; omega, ?_⟩
  rcases he with rfl | ⟨hlt, hb⟩
  · refine .inr ⟨rfl, ?_⟩
    rw [h2, List.drop_length]
    show o ++ ([(l.take l.length).drop a]).flatMap lineT = _
    simp
  · refine .inl ⟨hlt, Nat.le_refl _, ?_⟩
    rw [h2, List.drop_eq_getElem_cons hlt]
    show o ++ (if (l[i]).toNat == 10 then (l.take i).drop a :: linesG [] (l.drop (i + 1)) else _).flatMap lineT = _
    rw [hb, if_pos rfl, List.flatMap_cons, ← List.append_assoc, show (l.take (i + 1)).drop (i + 1) = [] from List.drop_of_length_le (by rw [List.length_take]; omega)]
theorem LnW.skip {l : List UInt8} {o : List UInt8} (h : LnW l l.length l.length o) : LnW l (l.length + 1) l.length o := by
  obtain ⟨h1, h2⟩ := h.at_ (Nat.le_refl _)
  refine ⟨by rw [lnB_succ]; have := h.1; omega, .inr ⟨rfl, ?_⟩⟩
  rw [h2, List.drop_length, List.take_length, List.drop_length]
  show o ++ ([([] : List UInt8)]).flatMap lineT = o
  rw [show ([([] : List UInt8)]).flatMap lineT = [] from rfl, List.append_nil]
/-- The law's row of bytes: nothing was ever laid, or something. -/
def BytR (w : World) (F : Nat → Prop) (v : Value) (l : List UInt8) : Prop := (l = [] ∧ v = .slice none 0 0) ∨ (l ≠ [] ∧ Ow w F 5 eU8 v l)
theorem BytR.ow {w : World} {F : Nat → Prop} {v : Value} {l : List UInt8} (h : BytR w F v l) : Ow w F 5 eU8 v l := by
  rcases h with ⟨rfl, rfl⟩ | ⟨_, h⟩
  · exact Ow.nil _ _ _ _ _
  · exact h
theorem BytR.no {w w' : World} {F : Nat → Prop} {v : Value} {l : List UInt8} (h : BytR w F v l) (f : Frm No w w') : BytR w' F v l := by
  rcases h with h | ⟨h0, h⟩
  · exact .inl h
  · exact .inr ⟨h0, h.no f⟩
theorem conv_none (W : World) : (convert 27 9 (.slice none 0 0)).run Tryz.prog W = .ok (.string ⟨#[]⟩) W :=
  conv_own (B := 0) (l := []) (World.ownsRow_nil W 0 5 1)
theorem BytR.conv {w : World} {F : Nat → Prop} {o : Option Addr} {n c : Nat} {l : List UInt8} (h : BytR w F (.slice o n c) l) : (convert 27 9 (.slice o n c)).run Tryz.prog w = .ok (.string ⟨l.toArray⟩) w := by
  rcases h with ⟨rfl, h⟩ | ⟨h0, h⟩
  · rw [h]; exact conv_none w
  · exact conv_ow h h0

set_option maxRecDepth 100000 in
theorem runs_long {w : World} (ht : Tab w) (s : ByteArray) (hs : 65536 < s.size) (hm : s.size ≤ 9223372036854775807) : Calls Tryz.prog 3 #[.string s] w fun e w' => e = .returned (.bool true) ∧ Frm No w w' := by
  have H1 := Lib.hid (fun W => run_long s hs W)
  have H2 := Lib.hid (fun W (f : Frm No w W) => conAwake_ok (ht.frm f))
  clear ht
  go_enter Tryz.func3, Tryz.ntmps3
  go_wp2_with (fail)
  refine (H1.out _).mono ?_
  rintro e w1 ⟨rfl, f1⟩
  go_wp2_with (fail)
  refine (num_ok 2501 _).mono ?_
  rintro e w2 ⟨rfl, rfl⟩
  go_wp2_with (fail)
  refine (H2.out _ f1).mono ?_
  rintro e w3 ⟨rfl, f3⟩
  go_wp2_with (fail)
  go_ret
  exact ⟨rfl, f1.trans f3⟩
set_option maxHeartbeats 16000000 in
set_option maxRecDepth 100000 in
theorem runs_short {w : World} (ht : Tab w) (s : ByteArray) (hs : s.size ≤ 65536) : Calls Tryz.prog 3 #[.string s] w fun e w' => e = .returned (.bool true) ∧ Frm No w w' := by
  have H1 := Lib.hid (run_ok ht s hs)
  have H2 := Lib.hid (fun W (f : Frm No w W) => conAwake_ok (ht.frm f))
  obtain ⟨R, hR⟩ : ∃ R : ByteArray, Hid (R = ⟨(runL s.data.toList).toArray⟩) := ⟨_, Lib.hid rfl⟩
  rw [← hR.out] at H1
  have HSZ := Lib.hid (size_eq s)
  clear ht
  go_enter Tryz.func3, Tryz.ntmps3
  go_wp2_with (fail)
  refine H1.out.mono ?_
  rintro e w0 ⟨rfl, f0⟩
  go_wp2_with (fail)
  go_loopg [5, 6, 7] (s.size + 1 + 1) (fun gg ov av iv wr => ∃ (i a : Nat) (o : List UInt8) (ao : Option Addr) (no co : Nat), iv = .int .i64 i ∧ av = .int .i64 a ∧ ov = .slice ao no co ∧ i ≤ s.size + 1 ∧ gg = s.size + 1 - i + 1 ∧ Frm No w wr ∧ BytR wr (fun k => w.heap.size ≤ k) (.slice ao no co) o ∧ LnW s.data.toList i a o)
  case atStart => exact ⟨0, 0, [], none, 0, 0, rfl, rfl, rfl, Nat.zero_le _, by omega, f0, .inl ⟨rfl, rfl⟩, LnW.nil _⟩
  case round =>
    obtain ⟨i, a, o, ao, no, co, rfl, rfl, rfl, hi, hg, F, O, D⟩ := hrel
    have hG := Lib.hid hg
    have HD := Lib.hid D
    have HO := Lib.hid O
    have HNO := Lib.hid O.ow.cap.1
    have hno : no ≤ 1110000000000 := by rw [O.ow.cap.1]; exact Nat.le_trans D.1 (lnB_le (by omega))
    have hsl : s.data.toList.length ≤ 65536 := by rw [← HSZ.out]; exact hs
    have HSL := Lib.hid hsl
    clear hg D O hsl
    by_cases hle : i ≤ s.size
    · have hil : i ≤ s.data.toList.length := by rw [← HSZ.out]; exact hle
      have hai := (HD.out.at_ hil).1
      by_cases hlt : i < s.size
      · have hltl : i < s.data.toList.length := by rw [← HSZ.out]; exact hlt
        have hge : s.data.toList[i] = s[i] := rfl
        cases hb : s[i].toNat == 10 with
        | false =>
          have HN := Lib.hid (HD.out.next hltl (by rw [hge]; exact hb))
          rw [beq_eq_false_iff_ne] at hb
          have q1 : ((s[i].toNat : Int) != 10) = true := by simp; omega
          clear hb hge
          go_wp2_with (fail)
          go_roundg (s.size + 1 - (i + 1) + 1)
          case measure => have := hG.out; omega
          case rel => exact ⟨i + 1, a, o, ao, no, co, by go_num, rfl, rfl, by omega, rfl, F, HO.out, HN.out⟩
        | true =>
          have HP := Lib.hid (HD.out.part hil HSL.out (.inr ⟨hltl, by rw [hge]; exact hb⟩))
          rw [beq_iff_eq] at hb
          have q1 : ((s[i].toNat : Int) != 10) = false := by simp; omega
          have q2 : ((i : Int) == s.size) = false := by simp; omega
          clear hb hge hil
          obtain ⟨x, hx⟩ : ∃ x, Hid (x = s.extract a i) := ⟨_, Lib.hid rfl⟩
          have hxs : x.size ≤ 65536 := by rw [hx.out, ByteArray.size_extract]; omega
          have hxl : (s.data.toList.take i).drop a = x.data.toList := by
            have h := congrArg (fun z : ByteArray => z.data.toList) (ext_cut s a i)
            rw [← hx.out] at h
            exact h
          have HP1 : Hid (LnW s.data.toList (i + 1) (i + 1) (o ++ lineW (wordsB x.data.toList))) := Lib.hid (by have := HP.out; rwa [hxl, lineT_w] at this)
          have hexe : s.extract a i = x := hx.out.symm
          have HW := Lib.hid (fun W => lawWords_ok x (by omega) W)
          have hwz := words_sz x.data.toList
          rw [← size_eq] at hwz
          obtain ⟨wl, hwl⟩ : ∃ wl, Hid (wl = wordsB x.data.toList) := ⟨_, Lib.hid rfl⟩
          have HWNE := Lib.hid (show ∀ v ∈ wl, v.data.toList ≠ [] from fun v hv => words_ne (l := x.data.toList) (by rw [← hwl.out]; exact hv))
          rw [← hwl.out] at hwz HW HP1
          have HWZ : Hid (wsz wl ≤ 65537) := Lib.hid (by omega)
          clear hwz hxl
          go_wp2_with (fail)
          refine (HW.out _).mono ?_
          rintro e w2 ⟨aw, nw, cw, rfl, o2, f2⟩
          have F2 := F.trans f2
          have z1 := F.size
          have z2 := f2.size
          clear HW
          cases wl with
          | nil =>
            obtain rfl : nw = 0 := o2.cap.1
            clear o2
            go_wp2_with (fail)
            go_roundg (s.size + 1 - (i + 1) + 1)
            case measure => have := hG.out; omega
            case rel => exact ⟨i + 1, i + 1, o, ao, no, co, by go_num, by go_num, rfl, by omega, rfl, F2, HO.out.no f2, by have := HP1.out; unfold lineW at this; rwa [List.append_nil] at this⟩
          | cons wd wt =>
            have R2 := Lib.hid o2.rd
            have hn2 : 0 < nw := by rw [o2.cap.1, List.length_cons]; omega
            obtain ⟨b, off, rfl, hbb, hc⟩ := o2.rd.at (i := 0) (by simp)
            have e1 : w2.cell? ⟨b, off, none⟩ = some (.string wd) := by have := hc 0 _ rfl; simpa using this
            obtain ⟨hd0, hhd⟩ := head_b (HWNE.out wd (List.mem_cons_self ..))
            clear hc o2
            cases hq : ((wd[0].toNat : Int) != 35) with
            | false =>
              have hz : lineW (wd :: wt) = [] := by
                rw [lineW_cons]
                have h35 : wd[0] = 35 := by
                  apply UInt8.toNat.inj
                  have : (wd[0].toNat : Int) = 35 := by simpa using hq
                  show wd[0].toNat = 35
                  omega
                rw [hhd, h35]; rfl
              have HZ := Lib.hid hz
              clear hz hhd
              go_wp2_with (fail)
              go_roundg (s.size + 1 - (i + 1) + 1)
              case measure => have := hG.out; omega
              case rel => exact ⟨i + 1, i + 1, o, ao, no, co, by go_num, by go_num, rfl, by omega, rfl, F2, HO.out.no f2, by have := HP1.out; rwa [HZ.out, List.append_nil] at this⟩
            | true =>
              have hz : lineW (wd :: wt) = tellL wd.data.toList wt ++ [10] := by
                rw [lineW_cons]
                have h35 : ¬ wd[0] = 35 := by
                  intro h
                  rw [h] at hq
                  exact absurd hq (by decide)
                have : (some wd[0] == some 35) = false := by
                  rw [beq_eq_false_iff_ne]; intro h; exact h35 (Option.some.inj h)
                rw [hhd, this]; rfl
              have HZ := Lib.hid hz
              clear hz hhd
              obtain ⟨tt, htt⟩ : ∃ tt : ByteArray, Hid (tt = ⟨(tellL wd.data.toList wt).toArray⟩) := ⟨_, Lib.hid rfl⟩
              have HLI := Lib.hid (lawTold_ok R2.out HWZ.out HWNE.out)
              rw [← htt.out] at HLI
              have htl : tt.size ≤ 16900000 := by
                rw [htt.out, size_eq]
                show (List.toArray _).toList.length ≤ _
                rw [List.toList_toArray]
                have h1 := wsz_len (wd :: wt)
                rw [List.length_cons] at h1
                have := HWZ.out
                exact tell_len _ (by omega)
              have HTS : Hid (tt.size = tt.data.toList.length) := Lib.hid (size_eq tt)
              have O2 := Lib.hid (HO.out.no f2).ow
              go_wp2_with (fail)
              refine HLI.out.mono ?_
              rintro e w3 ⟨rfl, f3⟩
              have F3 := F2.trans f3
              have z3 := f3.size
              have hsr : Src Tryz.prog eU8.k 9 (.string tt) tt.size (eU8.flat tt.data.toList) w3 := by
                rw [eU8_flat]
                exact Src.ofString w3 Tryz.underlying9 tt
              go_wp2_with (at_builtin; refine wpList_ap _ rfl (.tmp 69) (.tmp 71) 27 9 rfl 5 _ 1 Tryz.underlying27 i_u8e rfl (O2.out.no f3) hsr HTS.out rfl rfl ?c1 ?c2 ?_)
              case c1 => rw [← HNO.out]; unfold maxLen; omega
              case c2 => rw [← HNO.out]; omega
              intro a4 c4 w4 o4 f4
              have F4 : Frm No w w4 := F3.then f4 fun k hk hh => by omega
              have z4 := f4.size
              clear hsr
              obtain ⟨n4, hn4⟩ : ∃ n4, Hid (n4 = no + tt.size) := ⟨_, Lib.hid rfl⟩
              rw [← HNO.out, ← hn4.out]
              rw [← HNO.out, ← hn4.out] at o4
              obtain ⟨o', ho'⟩ : ∃ o', Hid (o' = o ++ tt.data.toList) := ⟨_, Lib.hid rfl⟩
              rw [← ho'.out] at o4
              have hn4b : n4 ≤ 1110016900000 := by rw [hn4.out]; omega
              have HN4 := Lib.hid o4.cap.1
              go_wp2_with (at_builtin; refine wpList_ap _ rfl (.tmp 73) (.tmp 74) 27 27 rfl 5 _ 1 Tryz.underlying27 i_u8e rfl (o4.al _) ((RdS.litg w4 eU8 (10 : UInt8) _ (g := w4.heap.size) rfl).src Tryz.underlying27) rfl rfl rfl ?c1 ?c2 ?_)
              case c1 => rw [← HN4.out]; unfold maxLen; omega
              case c2 => rw [← HN4.out]; omega
              intro a5 c5 w5 o5 f5
              have F5 : Frm No w w5 := (F4.al _).then f5 fun k hk hh => by rcases hh with hh | hh; exact absurd hh (by omega); have := hh.1; omega
              rw [← HN4.out] at o5
              go_wp2_with (fail)
              go_roundg (s.size + 1 - (i + 1) + 1)
              case measure => have := hG.out; omega
              case rel =>
                refine ⟨i + 1, i + 1, o' ++ [10], a5, n4 + 1, c5, by go_num, by go_num, by rw [← HN4.out], by omega, rfl, F5, .inr ⟨by simp, ?_⟩, ?_⟩
                · exact o5.mono fun k hk hh => (by rcases hh with (hh | hh) | hh; exact hh; have := hh.1; omega; have := hh.1; simp at *; omega)
                · have := HP1.out
                  rw [HZ.out] at this
                  rw [ho'.out, htt.out]
                  simpa using this
      · have HP := Lib.hid (HD.out.part hil HSL.out (.inl (by rw [← HSZ.out]; omega)))
        have hie : i = s.size := by omega
        by_cases hae : a = i
        · have q2 : ((i : Int) == s.size) = true := by simp; omega
          have q3 : ((a : Int) == i) = true := by simp; omega
          have HSK : Hid (LnW s.data.toList (i + 1) i o) := Lib.hid (by
            have h := HD.out
            rw [hae, hie, HSZ.out] at h
            have := h.skip
            rw [hie, HSZ.out]; exact this)
          have HAE := Lib.hid hae
          clear hil hie hae
          go_wp2_with (fail)
          go_roundg (s.size + 1 - (i + 1) + 1)
          case measure => have := hG.out; omega
          case rel => exact ⟨i + 1, i, o, ao, no, co, by go_num, by rw [HAE.out], rfl, by omega, rfl, F, HO.out, HSK.out⟩
        · have q2 : ((i : Int) == s.size) = true := by simp; omega
          have q3 : ((a : Int) == i) = false := by simp; omega
          clear hil hie hae
          obtain ⟨x, hx⟩ : ∃ x, Hid (x = s.extract a i) := ⟨_, Lib.hid rfl⟩
          have hxs : x.size ≤ 65536 := by rw [hx.out, ByteArray.size_extract]; omega
          have hxl : (s.data.toList.take i).drop a = x.data.toList := by
            have h := congrArg (fun z : ByteArray => z.data.toList) (ext_cut s a i)
            rw [← hx.out] at h
            exact h
          have HP1 : Hid (LnW s.data.toList (i + 1) (i + 1) (o ++ lineW (wordsB x.data.toList))) := Lib.hid (by have := HP.out; rwa [hxl, lineT_w] at this)
          have hexe : s.extract a i = x := hx.out.symm
          have HW := Lib.hid (fun W => lawWords_ok x (by omega) W)
          have hwz := words_sz x.data.toList
          rw [← size_eq] at hwz
          obtain ⟨wl, hwl⟩ : ∃ wl, Hid (wl = wordsB x.data.toList) := ⟨_, Lib.hid rfl⟩
          have HWNE := Lib.hid (show ∀ v ∈ wl, v.data.toList ≠ [] from fun v hv => words_ne (l := x.data.toList) (by rw [← hwl.out]; exact hv))
          rw [← hwl.out] at hwz HW HP1
          have HWZ : Hid (wsz wl ≤ 65537) := Lib.hid (by omega)
          clear hwz hxl
          go_wp2_with (fail)
          refine (HW.out _).mono ?_
          rintro e w2 ⟨aw, nw, cw, rfl, o2, f2⟩
          have F2 := F.trans f2
          have z1 := F.size
          have z2 := f2.size
          clear HW
          cases wl with
          | nil =>
            obtain rfl : nw = 0 := o2.cap.1
            clear o2
            go_wp2_with (fail)
            go_roundg (s.size + 1 - (i + 1) + 1)
            case measure => have := hG.out; omega
            case rel => exact ⟨i + 1, i + 1, o, ao, no, co, by go_num, by go_num, rfl, by omega, rfl, F2, HO.out.no f2, by have := HP1.out; unfold lineW at this; rwa [List.append_nil] at this⟩
          | cons wd wt =>
            have R2 := Lib.hid o2.rd
            have hn2 : 0 < nw := by rw [o2.cap.1, List.length_cons]; omega
            obtain ⟨b, off, rfl, hbb, hc⟩ := o2.rd.at (i := 0) (by simp)
            have e1 : w2.cell? ⟨b, off, none⟩ = some (.string wd) := by have := hc 0 _ rfl; simpa using this
            obtain ⟨hd0, hhd⟩ := head_b (HWNE.out wd (List.mem_cons_self ..))
            clear hc o2
            cases hq : ((wd[0].toNat : Int) != 35) with
            | false =>
              have hz : lineW (wd :: wt) = [] := by
                rw [lineW_cons]
                have h35 : wd[0] = 35 := by
                  apply UInt8.toNat.inj
                  have : (wd[0].toNat : Int) = 35 := by simpa using hq
                  show wd[0].toNat = 35
                  omega
                rw [hhd, h35]; rfl
              have HZ := Lib.hid hz
              clear hz hhd
              go_wp2_with (fail)
              go_roundg (s.size + 1 - (i + 1) + 1)
              case measure => have := hG.out; omega
              case rel => exact ⟨i + 1, i + 1, o, ao, no, co, by go_num, by go_num, rfl, by omega, rfl, F2, HO.out.no f2, by have := HP1.out; rwa [HZ.out, List.append_nil] at this⟩
            | true =>
              have hz : lineW (wd :: wt) = tellL wd.data.toList wt ++ [10] := by
                rw [lineW_cons]
                have h35 : ¬ wd[0] = 35 := by
                  intro h
                  rw [h] at hq
                  exact absurd hq (by decide)
                have : (some wd[0] == some 35) = false := by
                  rw [beq_eq_false_iff_ne]; intro h; exact h35 (Option.some.inj h)
                rw [hhd, this]; rfl
              have HZ := Lib.hid hz
              clear hz hhd
              obtain ⟨tt, htt⟩ : ∃ tt : ByteArray, Hid (tt = ⟨(tellL wd.data.toList wt).toArray⟩) := ⟨_, Lib.hid rfl⟩
              have HLI := Lib.hid (lawTold_ok R2.out HWZ.out HWNE.out)
              rw [← htt.out] at HLI
              have htl : tt.size ≤ 16900000 := by
                rw [htt.out, size_eq]
                show (List.toArray _).toList.length ≤ _
                rw [List.toList_toArray]
                have h1 := wsz_len (wd :: wt)
                rw [List.length_cons] at h1
                have := HWZ.out
                exact tell_len _ (by omega)
              have HTS : Hid (tt.size = tt.data.toList.length) := Lib.hid (size_eq tt)
              have O2 := Lib.hid (HO.out.no f2).ow
              go_wp2_with (fail)
              refine HLI.out.mono ?_
              rintro e w3 ⟨rfl, f3⟩
              have F3 := F2.trans f3
              have z3 := f3.size
              have hsr : Src Tryz.prog eU8.k 9 (.string tt) tt.size (eU8.flat tt.data.toList) w3 := by
                rw [eU8_flat]
                exact Src.ofString w3 Tryz.underlying9 tt
              go_wp2_with (at_builtin; refine wpList_ap _ rfl (.tmp 69) (.tmp 71) 27 9 rfl 5 _ 1 Tryz.underlying27 i_u8e rfl (O2.out.no f3) hsr HTS.out rfl rfl ?c1 ?c2 ?_)
              case c1 => rw [← HNO.out]; unfold maxLen; omega
              case c2 => rw [← HNO.out]; omega
              intro a4 c4 w4 o4 f4
              have F4 : Frm No w w4 := F3.then f4 fun k hk hh => by omega
              have z4 := f4.size
              clear hsr
              obtain ⟨n4, hn4⟩ : ∃ n4, Hid (n4 = no + tt.size) := ⟨_, Lib.hid rfl⟩
              rw [← HNO.out, ← hn4.out]
              rw [← HNO.out, ← hn4.out] at o4
              obtain ⟨o', ho'⟩ : ∃ o', Hid (o' = o ++ tt.data.toList) := ⟨_, Lib.hid rfl⟩
              rw [← ho'.out] at o4
              have hn4b : n4 ≤ 1110016900000 := by rw [hn4.out]; omega
              have HN4 := Lib.hid o4.cap.1
              go_wp2_with (at_builtin; refine wpList_ap _ rfl (.tmp 73) (.tmp 74) 27 27 rfl 5 _ 1 Tryz.underlying27 i_u8e rfl (o4.al _) ((RdS.litg w4 eU8 (10 : UInt8) _ (g := w4.heap.size) rfl).src Tryz.underlying27) rfl rfl rfl ?c1 ?c2 ?_)
              case c1 => rw [← HN4.out]; unfold maxLen; omega
              case c2 => rw [← HN4.out]; omega
              intro a5 c5 w5 o5 f5
              have F5 : Frm No w w5 := (F4.al _).then f5 fun k hk hh => by rcases hh with hh | hh; exact absurd hh (by omega); have := hh.1; omega
              rw [← HN4.out] at o5
              go_wp2_with (fail)
              go_roundg (s.size + 1 - (i + 1) + 1)
              case measure => have := hG.out; omega
              case rel =>
                refine ⟨i + 1, i + 1, o' ++ [10], a5, n4 + 1, c5, by go_num, by go_num, by rw [← HN4.out], by omega, rfl, F5, .inr ⟨by simp, ?_⟩, ?_⟩
                · exact o5.mono fun k hk hh => (by rcases hh with (hh | hh) | hh; exact hh; have := hh.1; omega; have := hh.1; simp at *; omega)
                · have := HP1.out
                  rw [HZ.out] at this
                  rw [ho'.out, htt.out]
                  simpa using this
    · have hend : i = s.size + 1 := by omega
      have hw : runL s.data.toList = o := by
        rcases HD.out.2 with h | h
        · have := HSZ.out; omega
        · exact h.2
      have hRo : R = ⟨o.toArray⟩ := by rw [hR.out, hw]
      have hgt : ¬ ((i : Int) ≤ s.size) := by omega
      have hcv := HO.out.conv
      rw [← hRo] at hcv
      have HA := Lib.hid (H2.out _ F)
      clear hend hw hRo
      go_wp2_with (fail)
      refine (num_ok 0 _).mono ?_
      rintro e w2 ⟨rfl, rfl⟩
      go_wp2_with (fail)
      refine HA.out.mono ?_
      rintro e w3 ⟨rfl, f3⟩
      go_wp2_with (fail)
      go_ret
      exact ⟨rfl, F.trans f3⟩
theorem consoleRuns_row (w : World) (ht : Tab w) (s : ByteArray) (hs : s.size ≤ maxLen) : Calls Tryz.prog 3 #[.string s] w fun e w' => e = .returned (.bool true) ∧ Below w.heap.size w w' := by
  unfold maxLen at hs
  by_cases h : s.size ≤ 65536
  · exact (runs_short ht s h).mono fun e w' ⟨he, f⟩ => ⟨he, f.below (fun _ _ h => h) (Nat.le_refl _)⟩
  · exact (runs_long ht s (by omega) (by omega)).mono fun e w' ⟨he, f⟩ => ⟨he, f.below (fun _ _ h => h) (Nat.le_refl _)⟩
end Go.Proofs.YtgpdpalhkkjmiaaGreatDoor

/- The card of tattlelaw25.ConsoleRuns. -/
namespace Go.Proofs.YtgpdpalhkkjmiaaGreatDoor.consoleRuns
set_option linter.unusedVariables false
set_option linter.unusedSimpArgs false
open Go.ChangeShapes Go.WideShapes Go.ChangeAt Go.RowKit Go.Tt
open Go.ChangeMaps (open_string shut_string)
set_option linter.unusedVariables false
set_option maxRecDepth 100000 in
theorem contract (H : Type) (enc : TypeId × Value → H) (W : World) (base : Nat) (args : Array Value) (ds gs : List (DataW H)) (before : List MemPlace)
    (hval0 : ∀ (j : Nat) t v, Tryz.f3.params[j]? = some t → args[j]? = some v → Value.okWide Tryz.prog W .any base t v)
    (hW : DataW.Whole enc Tryz.prog Tryz.f3.params.toList Rows.consoleRunsSpec.vars false W args.toList ds gs before)
    (hsz0 : (DataW.weightsEach Tryz.prog (Tryz.f3.params.toList ++ Rows.consoleRunsSpec.plain.varTypes Tryz.prog) (ds ++ gs)).all (· ≤ reachBytes) = true)
    (hL : laidMetH Tryz.prog tabs W) :
    Calls Tryz.prog 3 args W fun e W' => ∃ v, e = .returned v ∧ Rows.consoleRunsSpec.post enc Tryz.prog Tryz.f3 false true false false W args v W' := by
  have hval : ∀ (j : Nat) t v, Tryz.f3.params[j]? = some t → args[j]? = some v → Value.okWide Tryz.prog W .any base t v := hval0
  have hW' := hW
  obtain ⟨p, q, hA0, hV, rfl, hfz, hnd⟩ := hW
  have hA : DataW.TrodAll enc Tryz.prog W 0 (fun _ => true) true Tryz.f3.params.toList args.toList ds p := hA0
  rw [Tryz.params3] at hA hval
  have hB := hA
  obtain ⟨v0, vs0, d0, ds0, p0, q0, hargs, rfl, rfl, h0, r0⟩ := trodAll_cons hA
  obtain ⟨rfl, rfl, rfl⟩ := trodAll_nil r0
  obtain rfl : args = #[v0] := by cases args; simp_all
  obtain ⟨rfl, rfl⟩ := trodVars_none hV
  obtain ⟨a0, rfl, e0, _, w0⟩ := open_string Tryz.underlying9 (hval 0 9 v0 rfl rfl) h0
  refine (consoleRuns_row W (table hL) a0 w0).mono fun e W' ⟨he, bel⟩ => ?_
  subst he
  exact ⟨_, rfl, _, _, _, [], _, [], hW', trodAll_mk1 (shut_bool Tryz.underlying4 _), below_trodAll laidOut bel (by kernel_rfl) hB (trodAll_lt hB), rfl, bel.frame _, fun h => by cases h⟩
theorem laid_met (os : Os) : laidMet Tryz.prog Rows.consoleRunsRow.laid ((laidWorld os).forCall (fun _ _ => 0) ⟨#[], #[.string ByteArray.empty], []⟩).memory :=
  laidMet_of_run' 8 (by kernel_rfl) (by kernel_rfl)
noncomputable def rdW (os : Os) {H : Type} (enc : TypeId × Value → H) : Option (List (DataW H) × List (DataW H) × List MemPlace) := DataW.whole enc Tryz.prog ((laidWorld os).forCall (fun _ _ => 0) ⟨#[], #[.string ByteArray.empty], []⟩).memory Tryz.f3.params.toList Rows.consoleRunsSpec.vars false (#[.string ByteArray.empty] : Array Value).toList 8
theorem rdW_some (os : Os) {H : Type} (enc : TypeId × Value → H) : (rdW os enc).isSome = true := by kernel_rfl
theorem reads (os : Os) {H : Type} (enc : TypeId × Value → H) : rdW os enc = some (((rdW os enc).get (rdW_some os enc)).1, ((rdW os enc).get (rdW_some os enc)).2.1, ((rdW os enc).get (rdW_some os enc)).2.2) := get_parts (rdW os enc) (rdW_some os enc)
set_option maxRecDepth 100000 in
theorem lifted (os : Os) (started : os.Started) (H : Type) (enc : TypeId × Value → H) (G : Stop.Interp) :
    ReturnsInHanded {} Tryz.checked os 3 .any ((OpenSpec.ofChange Rows.consoleRunsSpec).preRow enc Tryz.prog Tryz.f3 Rows.consoleRunsRow.domain false Rows.consoleRunsRow.laid) (((OpenSpec.ofChange Rows.consoleRunsSpec).at G).post enc Tryz.prog Tryz.f3 false true false false) := by
  have hx := reads os enc
  refine returnsInHanded_of_row (C := Tryz.checked) (s := OpenSpec.ofChange Rows.consoleRunsSpec) own started (by kernel_rfl) Tryz.func3
    (witness_row_at (enc := enc) (C := Tryz.checked) false (laidWorld os) #[.string ByteArray.empty] rfl (by kernel_rfl) (by kernel_rfl) (by kernel_rfl) (OpenSpec.preRow_of_cond 8 hx (by kernel_rfl) (fun k hk => by cases hk) (by kernel_rfl) (laid_met os))) ?_
  intro W base args ds gs before hval hW _ hcond hsz hL _ _
  exact contract H enc W base args ds gs before hval hW hsz hL
theorem said : Rows.ConsoleRunsSaid :=
  OpenClaim.holds_of_cond 3 Tryz.f3 rfl rfl rfl rfl rfl rfl rfl ⟨rfl, rfl, rfl, rfl, rfl⟩ rfl rfl rfl rfl rfl (by kernel_rfl) Tryz.func3 (by kernel_rfl)
    (of_decide_eq_true (by kernel_rfl)) (by unfold Func.isWrapper; first | (rw [if_pos (by decide +kernel)]; kernel_rfl) | (rw [if_neg (by decide +kernel)]; exact ⟨rfl, rfl⟩))
    (fun os started H enc _ G => by rw [OpenClaim.pre_eq_preRow]; exact lifted os started H enc G)
theorem plain (f : FuncId) (fn : Func) (hf : Tryz.pinned.checked.prog.funcNamed "tattle/tattlelaw25.ConsoleRuns" = some f) (hfn : Tryz.pinned.checked.prog.funcs[f]? = some fn) :
    true = Tryz.pinned.checked.prog.looks [] ∧ ∀ (j : Nat) t, fn.params[j]? = some t → Tryz.pinned.checked.prog.wantsStandIn t = false := by
  obtain rfl : f = 3 := Option.some.inj ((show Tryz.prog.funcNamed "tattle/tattlelaw25.ConsoleRuns" = some 3 by kernel_rfl).symm.trans hf) |>.symm
  obtain rfl : fn = Tryz.f3 := (Option.some.inj (Tryz.func3.symm.trans hfn)).symm
  refine ⟨by kernel_rfl, fun j t ht => ?_⟩
  rw [Tryz.params3] at ht
  have ht := Array.mem_of_getElem? ht
  simp only [List.mem_toArray, List.mem_cons, List.not_mem_nil, or_false] at ht
  rcases ht with rfl
  · exact (show Tryz.prog.wantsStandIn 9 = false by kernel_rfl)
theorem card : Rows.ConsoleRunsCardSaid :=
  Claim7.holds_tied_plain_at .later [] _ _ _ _ said (fun _ h => by cases h) (by kernel_rfl) (fun _ h => by cases h) consoleRuns_row_tie rfl ⟨rfl, rfl⟩ (by kernel_rfl) rfl plain (by kernel_rfl)
end Go.Proofs.YtgpdpalhkkjmiaaGreatDoor.consoleRuns
namespace Go.Proofs.YtgpdpalhkkjmiaaGreatDoor
set_option linter.unusedVariables false
set_option linter.unusedSimpArgs false
/-- The card, under a short name, for the claim. -/
theorem consoleRuns_holds : Rows.ConsoleRunsCardSaid := consoleRuns.card
#print axioms consoleRuns_holds
end Go.Proofs.YtgpdpalhkkjmiaaGreatDoor

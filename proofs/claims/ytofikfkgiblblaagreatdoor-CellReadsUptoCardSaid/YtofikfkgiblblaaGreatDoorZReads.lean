/- Merged: Bulk Quot LReads LReadsR RowCReads. -/
import Derived.Test.YtofikfkgiblblaaGreatDoorQ10
import Derived.Test.YtofikfkgiblblaaGreatDoorQ26
import Derived.Test.YtofikfkgiblblaaGreatDoorQ42
/- What the second form's bound gives. -/
namespace Go.Proofs.YtofikfkgiblblaaGreatDoor
set_option linter.unusedVariables false
set_option linter.unusedSimpArgs false
open Go.RowKit Go.Lib Go.Tt
theorem bulk_part {H : Type} {d : DataW H} {l : List (DataW H)} (h : d ∈ l) : Rows.uptoBulk d ≤ Rows.uptoBulkAll l := by
  induction l with
  | nil => cases h
  | cons x r ih =>
    simp only [Rows.uptoBulkAll]
    rcases List.mem_cons.1 h with e | e
    · subst e; omega
    · have := ih e; omega
/-- A text's size, where the row bounds the bulk. -/
theorem upto_str {H : Type} {d : DataW H} {l : List (DataW H)} {s : ByteArray} (hk : Rows.uptoSmall H l = true) (h : d ∈ l) (e : d = .lit (.string s.data.toList)) : s.size + 1 ≤ 1048576 := by
  have h1 : Rows.uptoBulkAll l ≤ 1048576 := of_decide_eq_true hk
  have h2 := bulk_part h
  rw [e] at h2
  have h3 : Rows.uptoBulk (DataW.lit (H := H) (.string s.data.toList)) = s.data.toList.length + 1 := by simp [Rows.uptoBulk]
  have h4 : s.data.toList.length = s.size := Array.length_toList
  omega
end Go.Proofs.YtofikfkgiblblaaGreatDoor

/- Texts told: no two are told alike, every byte told can be printed. No program in sight. -/
namespace Go.Proofs.YtofikfkgiblblaaGreatDoor
open Go.RowKit Go.Lib Go.Tt
def hexV (x : UInt8) : Nat := if x.toNat < 58 then x.toNat - 48 else x.toNat - 87
/-- The first byte that was told. -/
def dec1 : List UInt8 → UInt8
  | [] => 0
  | x :: l => if x = 92 then (match l with
    | [] => 0
    | y :: l => if y = 117 then (match l with
      | _ :: _ :: h :: k :: _ => UInt8.ofNat (hexV h * 16 + hexV k)
      | _ => 0) else y) else x
theorem hexV_hexD : ∀ c : Fin 256, UInt8.ofNat (hexV (hexD (c / 16)) * 16 + hexV (hexD (c % 16))) = UInt8.ofNat c := by decide +kernel
theorem dec1_qc (c : UInt8) (r : List UInt8) : dec1 (qc c ++ r) = c := by
  unfold qc
  split
  · next h =>
    have : c = 34 ∨ c = 92 := by
      rcases h with h | h
      · exact .inl (UInt8.toNat_inj.1 h)
      · exact .inr (UInt8.toNat_inj.1 h)
    rcases this with rfl | rfl <;> rfl
  · next h =>
    split
    · show UInt8.ofNat _ = c
      have := hexV_hexD ⟨c.toNat, c.toNat_lt⟩
      simp only at this
      rw [this]
      exact UInt8.ofNat_toNat
    · show dec1 (c :: r) = c
      have hc : c ≠ 92 := by
        intro e
        apply h
        right
        rw [e]; rfl
      unfold dec1
      show (if c = 92 then _ else c) = c
      rw [if_neg hc]
theorem qc_pos (c : UInt8) : 1 ≤ (qc c).length := by unfold qc; split <;> (try split) <;> simp
theorem flatQ_inj : ∀ {l l' : List UInt8}, l.flatMap qc = l'.flatMap qc → l = l'
  | [], [], _ => rfl
  | [], c :: l', h => by
    have := congrArg List.length h
    have := qc_pos c
    simp only [List.flatMap_nil, List.flatMap_cons, List.length_nil, List.length_append] at *
    omega
  | c :: l, [], h => by
    have := congrArg List.length h
    have := qc_pos c
    simp only [List.flatMap_nil, List.flatMap_cons, List.length_nil, List.length_append] at *
    omega
  | c :: l, c' :: l', h => by
    rw [List.flatMap_cons, List.flatMap_cons] at h
    have e := congrArg dec1 h
    rw [dec1_qc, dec1_qc] at e
    subst e
    rw [flatQ_inj (List.append_cancel_left h)]
theorem flatQ_ge (l : List UInt8) : l.length ≤ (l.flatMap qc).length := by
  induction l with
  | nil => simp
  | cons x l ih => rw [List.flatMap_cons, List.length_append, List.length_cons]; have := qc_pos x; omega
theorem hexD_ok : ∀ n : Fin 16, 32 ≤ (hexD n).toNat ∧ (hexD n).toNat < 127 := by decide
theorem qc_ok (c : UInt8) : ∀ x ∈ qc c, 32 ≤ x.toNat ∧ x.toNat < 127 := by
  intro x hx
  unfold qc at hx
  split at hx
  · next h =>
    simp only [List.mem_cons, List.not_mem_nil, or_false] at hx
    rcases hx with rfl | rfl
    · decide
    · omega
  · next h =>
    split at hx
    · next h2 =>
      simp only [List.mem_cons, List.not_mem_nil, or_false] at hx
      have hc := c.toNat_lt
      rcases hx with rfl | rfl | rfl | rfl | rfl | rfl
      · decide
      · decide
      · decide
      · decide
      · exact hexD_ok ⟨c.toNat / 16, by omega⟩
      · exact hexD_ok ⟨c.toNat % 16, by omega⟩
    · next h2 =>
      simp only [List.mem_cons, List.not_mem_nil, or_false] at hx
      subst hx
      omega
theorem quoteL_ok (l : List UInt8) : ∀ x ∈ quoteL l, 32 ≤ x.toNat ∧ x.toNat < 127 := by
  intro x hx
  unfold quoteL at hx
  simp only [List.mem_cons, List.mem_append, List.not_mem_nil, or_false, List.mem_flatMap] at hx
  rcases hx with rfl | ⟨c, -, h⟩ | rfl
  · decide
  · exact qc_ok c x h
  · decide
theorem quoteL_inj {l l' : List UInt8} (h : quoteL l = quoteL l') : l = l' := by
  unfold quoteL at h
  injection h with _ h
  exact flatQ_inj (List.append_cancel_right h)
/-- What CellReads asks of a text that was told. -/
theorem quote_facts (s : ByteArray) : ∃ A : ByteArray, A = ⟨(quoteL s.data.toList).toArray⟩ ∧ s.size + 2 ≤ A.size ∧ A.size ≤ 6 * s.size + 2 ∧ (∀ h : 0 < A.size, A[0]'h = 34) ∧ (∀ h : A.size - 1 < A.size, A[A.size - 1]'h = 34) ∧ ∀ i (h : i < A.size), 32 ≤ (A[i]'h).toNat ∧ (A[i]'h).toNat < 127 := by
  refine ⟨_, rfl, ?_, ?_, ?_, ?_, ?_⟩
  · have h := flatQ_ge s.data.toList
    have e : s.data.toList.length = s.size := Array.length_toList
    show _ ≤ (quoteL s.data.toList).toArray.size
    rw [List.size_toArray]
    unfold quoteL
    simp only [List.length_cons, List.length_append, List.length_nil]
    omega
  · have h := flatQ_len s.data.toList
    have e : s.data.toList.length = s.size := Array.length_toList
    show (quoteL s.data.toList).toArray.size ≤ _
    rw [List.size_toArray]
    unfold quoteL
    simp only [List.length_cons, List.length_append, List.length_nil]
    omega
  · intro h
    rfl
  · intro h
    show (quoteL s.data.toList).toArray[(quoteL s.data.toList).toArray.size - 1] = 34
    simp [quoteL]
  · intro i h
    exact quoteL_ok _ _ (by
      show (quoteL s.data.toList).toArray[i] ∈ _
      rw [List.getElem_toArray]
      exact List.getElem_mem _)
theorem quote_ne {s t : ByteArray} (h : s ≠ t) : (⟨(quoteL s.data.toList).toArray⟩ : ByteArray) ≠ ⟨(quoteL t.data.toList).toArray⟩ := by
  intro e
  apply h
  have e1 : (quoteL s.data.toList).toArray = (quoteL t.data.toList).toArray := congrArg ByteArray.data e
  have e2 := quoteL_inj (by simpa using e1)
  exact ByteArray.ext (Array.toList_inj.1 e2)
end Go.Proofs.YtofikfkgiblblaaGreatDoor

/- tattlelaw12.CellReads answers true, for texts that have room. -/
namespace Go.Proofs.YtofikfkgiblblaaGreatDoor
open Go.RowKit Go.Lib Go.Tt Go.Shelf
def cS (s : ByteArray) : CellV := ⟨0, true, (0, 0), s, (0, 0), [], [], []⟩
theorem readS (s : ByteArray) : readF (cS s) = (quoteL s.data.toList, 0) := rfl
theorem read_S {w : World} (s : ByteArray) (hs : 6 * s.size + 2 ≤ 140737488355328) (t : Tab w) :
    Calls Tryz.prog 15 #[.agg #[.int .i64 0, .bool true, .int .i64 0, .int .i64 0, .string s, .int .i64 0, .int .i64 0, .slice none 0 0, .slice none 0 0, .slice none 0 0]] w fun e w' => e = .returned (.tuple #[.string ⟨(quoteL s.data.toList).toArray⟩, .int .i64 0]) ∧ Frm No w w' := by
  have h := read_ok (w := w) (c := cS s) (ve := .slice none 0 0) (vl := .slice none 0 0) (vs := .slice none 0 0) ⟨RdS.nil _ _, RdS.nil _ _, RdS.nil _ _⟩ ⟨(by show 0 * 32 ≤ _; omega), (by show 0 * 48 ≤ _; omega), (by show 0 * 8 ≤ _; omega)⟩ ⟨fun _ => hs, (fun h => absurd h (by show ¬ (0 : Int) = 2; decide)), (fun h => absurd h (by show ¬ (0 : Int) = 3; decide))⟩ t
  rw [readS] at h
  exact h
set_option maxHeartbeats 4000000 in
set_option maxRecDepth 100000 in
theorem lreads_ok {w : World} (tab : Tab w) (s t : ByteArray) (hs : 6 * s.size + 2 ≤ 140737488355328) (ht : 6 * t.size + 2 ≤ 140737488355328) :
    Calls Tryz.prog 7 #[.string s, .string t] w fun e w' => e = .returned (.bool true) ∧ Frm No w w' := by
  have HA := Lib.hid (awake_ok tab)
  have HS := Lib.hid (fun W (f : Frm No w W) => read_S s hs (tab.frm f))
  have HT := Lib.hid (fun W (f : Frm No w W) => read_S t ht (tab.frm f))
  obtain ⟨A, hA, a1, a2, a3, a4, a5⟩ := quote_facts s
  obtain ⟨B, hB, -, b2, -⟩ := quote_facts t
  have hAB : Hid (s ≠ t → A ≠ B) := Lib.hid fun h => by rw [hA, hB]; exact quote_ne h
  have hAB' : Hid (s = t → A = B) := Lib.hid fun h => by rw [hA, hB, h]
  rw [← hA] at HS
  rw [← hB] at HT
  clear hA hB tab
  go_enter Tryz.func7, Tryz.ntmps7
  go_wp2_with (fail)
  refine HA.out.mono ?_
  rintro e w0 ⟨rfl, F0⟩
  clear HA
  go_wp2_with (fail)
  refine (HS.out _ F0).mono ?_
  rintro e w1 ⟨rfl, f1⟩
  have F1 := F0.trans f1
  clear F0 f1 HS
  go_wp2_with (fail)
  refine (HT.out _ F1).mono ?_
  rintro e w2 ⟨rfl, f2⟩
  have F2 := F1.trans f2
  clear F1 f2 HT
  have hne : ∀ {x y : ByteArray}, x ≠ y → (x.toList == y.toList) = false := fun {x y} h => by
    rcases hq : (x.toList == y.toList) with _ | _
    · rfl
    · exact absurd (str_eq_of (by rw [hq]; rfl)) h
  have hbb : (A.toList == B.toList) = (s.toList == t.toList) := by
    by_cases h : s = t
    · rw [hAB'.out h, h, beq_self_eq_true, beq_self_eq_true]
    · rw [hne h, hne (hAB.out h)]
  clear hne
  have a5' := Lib.hid a5
  clear a5 hAB hAB'
  go_wp2_with (go_at_call 18; refine (num_ok _ _).mono ?_; rintro e w' ⟨rfl, rfl⟩)
  have hF := F2
  go_loopg [9] (A.size + 1) (fun g iv wr => ∃ (i : Nat), iv = .int .i64 i ∧ i ≤ A.size ∧ g = A.size - i + 1 ∧ wr = w2)
  case atStart => exact ⟨0, rfl, Nat.zero_le _, by omega, rfl⟩
  case round =>
    obtain ⟨i, rfl, hi, hg, rfl⟩ := hrel
    have hG := Lib.hid hg
    clear hg
    by_cases h1 : i < A.size
    · have g1 : (i : Int) < A.size := by omega
      have a6 := a5'.out i h1
      have a7 : ¬ ((A[i].toNat : Int) < 32) := by omega
      have a8 : ¬ (127 ≤ (A[i].toNat : Int)) := by omega
      go_wp2_with (fail)
      go_roundg (A.size - (i + 1) + 1)
      case measure => have := hG.out; omega
      case rel => exact ⟨i + 1, by go_num, by omega, rfl, rfl⟩
    · have g1 : ¬ ((i : Int) < A.size) := by omega
      go_wp2_with (fail)
      go_ret
      exact ⟨rfl, hF⟩
end Go.Proofs.YtofikfkgiblblaaGreatDoor

/- CellReads at what the row hands in. -/
namespace Go.Proofs.YtofikfkgiblblaaGreatDoor
open Go.RowKit Go.Lib Go.Tt Go.WideShapes
theorem lreads_row (w : World) (tab : Tab w) (s : ByteArray) (_ : s.size ≤ maxLen) (t : ByteArray) (_ : t.size ≤ maxLen) (hs : s.size + 1 ≤ 1048576) (ht : t.size + 1 ≤ 1048576) : Calls Tryz.prog 7 #[.string s, .string t] w fun e w' => e = .returned (.bool true) ∧ Below w.heap.size w w' :=
  (lreads_ok tab s t (by omega) (by omega)).mono fun e w' ⟨he, f⟩ => ⟨he, f.below (fun _ _ h => h) (Nat.le_refl _)⟩
end Go.Proofs.YtofikfkgiblblaaGreatDoor

/- The card of tattlelaw12.CellReads (the second form). -/
namespace Go.Proofs.YtofikfkgiblblaaGreatDoor.cellReadsUpto
open Go.ChangeShapes Go.WideShapes Go.ChangeAt Go.RowKit Go.Tt
open Go.ChangeMaps (open_string shut_string)
set_option linter.unusedVariables false
set_option maxRecDepth 100000 in
theorem contract (H : Type) (enc : TypeId × Value → H) (W : World) (base : Nat) (args : Array Value) (ds gs : List (DataW H)) (before : List MemPlace)
    (hval0 : ∀ (j : Nat) t v, Tryz.f7.params[j]? = some t → args[j]? = some v → Value.okWide Tryz.prog W .any base t v)
    (hW : DataW.Whole enc Tryz.prog Tryz.f7.params.toList Rows.cellReadsSpec.vars false W args.toList ds gs before)
    (hsz0 : (DataW.weightsEach Tryz.prog (Tryz.f7.params.toList ++ Rows.cellReadsSpec.plain.varTypes Tryz.prog) (ds ++ gs)).all (· ≤ reachBytes) = true)
    (hk : Rows.uptoSmall H (ds ++ gs) = true)
    (hL : laidMetH Tryz.prog tabs W) :
    Calls Tryz.prog 7 args W fun e W' => ∃ v, e = .returned v ∧ Rows.cellReadsSpec.post enc Tryz.prog Tryz.f7 false true false false W args v W' := by
  have hval : ∀ (j : Nat) t v, Tryz.f7.params[j]? = some t → args[j]? = some v → Value.okWide Tryz.prog W .any base t v := hval0
  have hW' := hW
  obtain ⟨p, q, hA0, hV, rfl, hfz, hnd⟩ := hW
  have hA : DataW.TrodAll enc Tryz.prog W 0 (fun _ => true) true Tryz.f7.params.toList args.toList ds p := hA0
  rw [Tryz.params7] at hA hval
  have hB := hA
  obtain ⟨v0, vs0, d0, ds0, p0, q0, hargs, rfl, rfl, h0, r0⟩ := trodAll_cons hA
  obtain ⟨v1, vs1, d1, ds1, p1, q1, rfl, rfl, rfl, h1, r1⟩ := trodAll_cons r0
  obtain ⟨rfl, rfl, rfl⟩ := trodAll_nil r1
  obtain rfl : args = #[v0, v1] := by cases args; simp_all
  obtain ⟨rfl, rfl⟩ := trodVars_none hV
  obtain ⟨a0, rfl, e0, _, w0⟩ := open_string Tryz.underlying9 (hval 0 9 v0 rfl rfl) h0
  obtain ⟨a1, rfl, e1, _, w1⟩ := open_string Tryz.underlying9 (hval 1 9 v1 rfl rfl) h1
  refine (lreads_row W (table hL) a0 w0 a1 w1 (upto_str hk (by simp) e0) (upto_str hk (by simp) e1)).mono fun e W' ⟨he, bel⟩ => ?_
  subst he
  exact ⟨_, rfl, _, _, _, [], _, [], hW', trodAll_mk1 (shut_bool Tryz.underlying4 _), below_trodAll laidOut bel (by kernel_rfl) hB (trodAll_lt hB), rfl, bel.frame _, fun h => by cases h⟩
theorem laid_met (os : Os) : laidMet Tryz.prog Rows.cellReadsUptoRow.laid ((laidWorld os).forCall (fun _ _ => 0) ⟨#[], #[.string ByteArray.empty, .string ByteArray.empty], []⟩).memory :=
  laidMet_of_run' 8 (by kernel_rfl) (by kernel_rfl)
noncomputable def rdW (os : Os) {H : Type} (enc : TypeId × Value → H) : Option (List (DataW H) × List (DataW H) × List MemPlace) := DataW.whole enc Tryz.prog ((laidWorld os).forCall (fun _ _ => 0) ⟨#[], #[.string ByteArray.empty, .string ByteArray.empty], []⟩).memory Tryz.f7.params.toList Rows.cellReadsSpec.vars false (#[.string ByteArray.empty, .string ByteArray.empty] : Array Value).toList 8
theorem rdW_some (os : Os) {H : Type} (enc : TypeId × Value → H) : (rdW os enc).isSome = true := by kernel_rfl
theorem reads (os : Os) {H : Type} (enc : TypeId × Value → H) : rdW os enc = some (((rdW os enc).get (rdW_some os enc)).1, ((rdW os enc).get (rdW_some os enc)).2.1, ((rdW os enc).get (rdW_some os enc)).2.2) := get_parts (rdW os enc) (rdW_some os enc)
set_option maxRecDepth 100000 in
theorem lifted (os : Os) (started : os.Started) (H : Type) (enc : TypeId × Value → H) (G : Stop.Interp) :
    ReturnsInHanded {} Tryz.checked os 7 .any ((Rows.OpenSpec.upto Rows.cellReadsSpec).preRow enc Tryz.prog Tryz.f7 Rows.cellReadsUptoRow.domain false Rows.cellReadsUptoRow.laid) (((Rows.OpenSpec.upto Rows.cellReadsSpec).at G).post enc Tryz.prog Tryz.f7 false true false false) := by
  have hx := reads os enc
  refine returnsInHanded_of_row (C := Tryz.checked) (s := Rows.OpenSpec.upto Rows.cellReadsSpec) own started (by kernel_rfl) Tryz.func7
    (witness_row_at (enc := enc) (C := Tryz.checked) false (laidWorld os) #[.string ByteArray.empty, .string ByteArray.empty] rfl (by kernel_rfl) (by kernel_rfl) (by kernel_rfl) (OpenSpec.preRow_of_cond 8 hx (by kernel_rfl) (fun k hk => by cases hk; kernel_rfl) (by kernel_rfl) (laid_met os))) ?_
  intro W base args ds gs before hval hW _ hcond hsz hL _ _
  exact contract H enc W base args ds gs before hval hW hsz (hcond _ rfl) hL
theorem said : Rows.CellReadsUptoSaid :=
  OpenClaim.holds_of_cond 7 Tryz.f7 rfl rfl rfl rfl rfl rfl rfl ⟨rfl, rfl, rfl, rfl, rfl⟩ rfl rfl rfl rfl rfl (by kernel_rfl) Tryz.func7 (by kernel_rfl)
    (of_decide_eq_true (by kernel_rfl)) (by unfold Func.isWrapper; first | (rw [if_pos (by decide +kernel)]; kernel_rfl) | (rw [if_neg (by decide +kernel)]; exact ⟨rfl, rfl⟩))
    (fun os started H enc _ G => by rw [OpenClaim.pre_eq_preRow]; exact lifted os started H enc G)
theorem plain (f : FuncId) (fn : Func) (hf : Tryz.pinned.checked.prog.funcNamed "tattle/tattlelaw12.CellReads" = some f) (hfn : Tryz.pinned.checked.prog.funcs[f]? = some fn) :
    false = Tryz.pinned.checked.prog.looks [] ∧ ∀ (j : Nat) t, fn.params[j]? = some t → Tryz.pinned.checked.prog.wantsStandIn t = false := by
  obtain rfl : f = 7 := Option.some.inj ((show Tryz.prog.funcNamed "tattle/tattlelaw12.CellReads" = some 7 by kernel_rfl).symm.trans hf) |>.symm
  obtain rfl : fn = Tryz.f7 := (Option.some.inj (Tryz.func7.symm.trans hfn)).symm
  refine ⟨by kernel_rfl, fun j t ht => ?_⟩
  rw [Tryz.params7] at ht
  have ht := Array.mem_of_getElem? ht
  simp only [List.mem_toArray, List.mem_cons, List.not_mem_nil, or_false] at ht
  rcases ht with rfl | rfl
  · exact (show Tryz.prog.wantsStandIn 9 = false by kernel_rfl)
  · exact (show Tryz.prog.wantsStandIn 9 = false by kernel_rfl)
theorem card : Rows.CellReadsUptoCardSaid :=
  Claim7.holds_tied_plain_at .later [] _ _ _ _ said (fun _ h => by cases h) (by kernel_rfl) (fun _ h => by cases h) cellReadsUpto_row_tie rfl ⟨rfl, rfl⟩ (by kernel_rfl) rfl plain (by kernel_rfl)
end Go.Proofs.YtofikfkgiblblaaGreatDoor.cellReadsUpto
namespace Go.Proofs.YtofikfkgiblblaaGreatDoor
/-- The card, under a short name, for the claim. -/
theorem cellReadsUpto_holds : Rows.CellReadsUptoCardSaid := cellReadsUpto.card
#print axioms cellReadsUpto_holds
end Go.Proofs.YtofikfkgiblblaaGreatDoor

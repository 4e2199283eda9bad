/- Merged: LForm15 LRows15 RowDForms15. -/
import Derived.Test.YthaegncocdddfaaGreatDoorK20
import Derived.Test.YthaegncocdddfaaGreatDoorK39
/- The law DocForms, walked. -/
namespace Go.Proofs.YthaegncocdddfaaGreatDoor
set_option linter.unusedVariables false
set_option linter.unusedSimpArgs false
set_option linter.unusedVariables false
set_option linter.unusedSimpArgs false
open Go.RowKit Go.Lib Go.Tt
def badL : List ByteArray := [⟨#[]⟩, ⟨#[123, 125]⟩, ⟨#[123, 97]⟩, ⟨#[97]⟩, ⟨#[123, 97, 125, 125]⟩, ⟨#[123, 97, 58, 125]⟩, ⟨#[123, 97, 40, 41, 125]⟩, ⟨#[123, 97, 40, 98, 41, 125]⟩, ⟨#[123, 97, 40, 98, 58, 41, 125]⟩, ⟨#[123, 97, 40, 98, 58, 99, 41, 125]⟩, ⟨#[123, 97, 32, 64, 115, 107, 105, 112, 125]⟩, ⟨#[123, 97, 32, 64, 102, 111, 111, 40, 105, 102, 58, 116, 114, 117, 101, 41, 125]⟩, ⟨#[123, 97, 32, 64, 115, 107, 105, 112, 40, 111, 102, 58, 116, 114, 117, 101, 41, 125]⟩, ⟨#[123, 46, 46, 46, 125]⟩, ⟨#[113, 117, 101, 114, 121]⟩, ⟨#[113, 117, 101, 114, 121, 40, 41]⟩, ⟨#[113, 117, 101, 114, 121, 40, 36, 97, 41, 123, 97, 125]⟩, ⟨#[113, 117, 101, 114, 121, 40, 36, 97, 58, 70, 111, 111, 41, 123, 97, 125]⟩, ⟨#[113, 117, 101, 114, 121, 40, 41, 123, 97, 125]⟩, ⟨#[102, 114, 97, 103, 109, 101, 110, 116, 32, 70, 32, 111, 110, 32, 84, 123, 97, 125]⟩, ⟨#[123, 97, 125, 32, 102, 114, 97, 103, 109, 101, 110, 116, 32, 70, 32, 84, 123, 97, 125]⟩, ⟨#[123, 97, 125, 32, 102, 114, 97, 103, 109, 101, 110, 116, 32, 70, 32, 111, 110, 32, 84, 123, 125]⟩, ⟨#[123, 97, 125, 32, 123, 98, 125]⟩, ⟨#[115, 117, 98, 115, 99, 114, 105, 112, 116, 105, 111, 110, 123, 97, 125]⟩, ⟨#[109, 117, 116, 97, 116, 105, 111, 110, 32, 109, 32, 110, 123, 97, 125]⟩, ⟨#[123, 97, 40, 98, 58, 34, 120, 41, 125]⟩, ⟨#[123, 97, 37, 125]⟩]
def badW (k : Nat) : Int := if k = 25 then 1301 else if k = 26 then 1300 else 1500
def bad1 (k : Nat) : Int := if k = 25 then 1301 else 1500
def badGo : List ByteArray → Nat → Bool
  | [], _ => true
  | s :: ss, k => ((parseL s.data.toList).2 == badW k) && Nat.ble s.size 100 && badGo ss (k + 1)
theorem badGo_at : ∀ (ss : List ByteArray) (k : Nat), badGo ss k = true → ∀ (i : Nat) (h : i < ss.length), (parseL ss[i].data.toList).2 = badW (k + i) ∧ ss[i].size ≤ 100
  | s :: ss, k, h, 0, _ => by
    unfold badGo at h
    simp only [Bool.and_eq_true] at h
    exact ⟨by simpa using h.1.1, Nat.le_of_ble_eq_true h.1.2⟩
  | s :: ss, k, h, i + 1, hi => by
    unfold badGo at h
    simp only [Bool.and_eq_true] at h
    have := badGo_at ss (k + 1) h.2 i (by simpa using hi)
    rw [show k + (i + 1) = k + 1 + i from by omega]
    exact this
theorem bad_all : badGo badL 0 = true := by kernel_rfl
theorem wmod (n : Int) (m : Nat) (hm : 0 < m) (hm2 : m ≤ 1000) : ∃ k : Nat, k < m ∧ wrap64 ((IntKind.u64.wrap n).tmod m) = k := by
  have h0 : 0 ≤ IntKind.u64.wrap n := by rw [IntKind.wrap_u64]; omega
  rw [Int.tmod_eq_emod_of_nonneg h0]
  have h1 := Int.emod_nonneg (IntKind.u64.wrap n) (b := (m : Int)) (by omega)
  have h2 := Int.emod_lt_of_pos (IntKind.u64.wrap n) (b := (m : Int)) (by omega)
  refine ⟨((IntKind.u64.wrap n) % (m : Int)).toNat, by omega, ?_⟩
  rw [Int.toNat_of_nonneg h1]
  unfold wrap64
  omega
set_option maxHeartbeats 8000000 in
set_option maxRecDepth 100000 in
theorem forms_ok (n : Int) (w : World) (ht : Tab w) : Calls Tryz.prog 5 #[.int .i64 n] w fun e w' => e = .returned (.bool true) ∧ Frm No w w' := by
  obtain ⟨R, hR⟩ : ∃ R : Ending → World → Prop, R = fun e w' => e = .returned (.bool true) ∧ Frm No w w' := ⟨_, rfl⟩
  rw [← hR]
  have HQ := Lib.hid hR
  have hnot : ∀ (x : Bool) (w : World), (Op.unary .not (.bool x)).run Tryz.prog w = .ok (.bool (!x)) w := fun _ _ => rfl
  clear hR
  have H0 := awake_ok w ht
  obtain ⟨k, hk, hkw⟩ := wmod n 27 (by decide) (by decide)
  obtain ⟨s, hs⟩ : ∃ s, s = badL[k]'hk := ⟨_, rfl⟩
  have hpw := badGo_at badL 0 bad_all k hk
  rw [← hs, Nat.zero_add] at hpw
  have HW := Lib.hid hkw
  have HS := Lib.hid hs
  clear hkw hs
  go_enter Tryz.func5, Tryz.ntmps5
  go_wp2_with (fail)
  refine H0.mono ?_
  rintro e w0 ⟨rfl, f0⟩
  clear H0
  go_upto_region 6 with fail
  have hw2 : wrap64 ((IntKind.u64.wrap n).tmod 27) = (k : Int) := HW.out
  rw [hw2]
  clear hw2
  obtain ⟨W0, hW0⟩ : ∃ W, W = w0.alloc (.cells (badL.map Value.string).toArray 9) := ⟨_, rfl⟩
  have F0 : Frm No w W0 := by rw [hW0]; exact f0.al _
  have c0 : W0.cell? ⟨w0.heap.size, k, none⟩ = some (.string s) := by
    rw [hW0, obj_cell (heap_alloc_new w0 _), List.getElem?_toArray, List.getElem?_map, List.getElem?_eq_getElem hk, HS.out]
    rfl
  unfold badL at hW0
  simp only [List.map_cons, List.map_nil] at hW0
  rw [← hW0]
  clear hW0
  generalize w0.heap.size = g0 at c0 ⊢
  go_upto_if 16 with fail
  go_cut [5] (fun s5 wx => s5 = .int .i64 (bad1 k) ∧ wx = W0)
  case first =>
    by_cases h5 : k = 25
    · have q1 : ((k : Int) == 25) = true := by rw [beq_iff_eq]; omega
      rw [q1]
      have H5 := Lib.hid (show bad1 k = 1301 from if_pos h5)
      clear h5 q1
      go_wp2_with (fail)
      go_meet
      exact ⟨by rw [H5.out], rfl⟩
    · have q1 : ((k : Int) == 25) = false := by rw [beq_eq_false_iff_ne]; omega
      rw [q1]
      have H5 := Lib.hid (show bad1 k = 1500 from if_neg h5)
      clear h5 q1
      go_wp2_with (fail)
      go_meet
      exact ⟨by rw [H5.out], rfl⟩
  case rest =>
    obtain ⟨rfl, rfl⟩ := hcut
    go_upto_if 18 with fail
    go_cut [5] (fun s5 wx => s5 = .int .i64 (badW k) ∧ wc = wx)
    case first =>
      by_cases h5 : k = 26
      · have q1 : ((k : Int) == 26) = true := by rw [beq_iff_eq]; omega
        rw [q1]
        have H5 := Lib.hid (show badW k = 1300 from by rw [h5]; rfl)
        clear h5 q1
        go_wp2_with (fail)
        go_meet
        exact ⟨by rw [H5.out], rfl⟩
      · have q1 : ((k : Int) == 26) = false := by rw [beq_eq_false_iff_ne]; omega
        rw [q1]
        have H5 := Lib.hid (show badW k = bad1 k from by unfold badW bad1; rw [if_neg h5])
        clear h5 q1
        go_wp2_with (fail)
        go_meet
        exact ⟨by rw [H5.out], rfl⟩
    case rest =>
      obtain ⟨rfl, rfl⟩ := hcut
      have H1 := parse_c s wc (by omega)
      have hbad := parse_bad s.data.toList (by
        rw [hpw.1]
        unfold badW
        split
        · decide
        · split <;> decide)
      have hp : parseL s.data.toList = (emDm, badW k) := by
        rw [← hbad, ← hpw.1]
      rw [hp] at H1
      clear hbad hp hpw
      go_wp2_with (fail)
      refine H1.mono ?_
      rintro e w1 ⟨v1, rfl, O1, f1⟩
      have D1 := O1.rd
      obtain ⟨W1, hW1⟩ : ∃ W, W = w1.alloc (docB v1) := ⟨_, rfl⟩
      have X1 : W1.heap[w1.heap.size]? = some (docB v1) := by rw [hW1]; exact heap_alloc_new w1 _
      have F1 : Frm No w1 W1 := by rw [hW1]; exact (Frm.refl No w1).al _
      have D2 := D1.frm F1 fun _ _ _ h => h
      have G1 := (F0.trans f1).trans F1
      have HSM := sameDoc_ok D2 (rd_em W1)
      have p0 := obj_cell X1 0
      have p1 := obj_cell X1 1
      have p2 := obj_cell X1 2
      have p3 := obj_cell X1 3
      simp only [List.getElem?_toArray, List.getElem?_cons_succ, List.getElem?_cons_zero] at p0 p1 p2 p3
      have l1 := lt_of_block X1
      unfold docB at hW1
      unfold dval nsh at HSM
      unfold dval
      clear X1 D1 f1 F1 D2 H1 O1
      go_upto_region 11 with fail
      rw [← hW1]
      clear hW1
      go_wp2_with (fail)
      refine HSM.mono ?_
      rintro e w2 ⟨rfl, f2⟩
      clear HSM p0 p1 p2 p3 l1
      go_wp2_with (go_at_call 15; refine (num_ok _ _).mono ?_; rintro e w' ⟨rfl, rfl⟩)
      rw [HQ.out]
      exact ⟨rfl, G1.trans f2⟩
end Go.Proofs.YthaegncocdddfaaGreatDoor

/- The walks of tattlelaw15, as the rows want them. -/
namespace Go.Proofs.YthaegncocdddfaaGreatDoor
set_option linter.unusedVariables false
set_option linter.unusedSimpArgs false
open Go.RowKit Go.Lib Go.Tt
theorem back_row (W : World) (ht : Tab W) (s : ByteArray) (hs : s.size ≤ maxLen) : Calls Tryz.prog 4 #[.string s] W fun e W' => e = .returned (.bool true) ∧ Below W.heap.size W W' :=
  (back_ok s W hs ht).mono fun _ _ h => ⟨h.1, h.2.below (fun _ _ h => h) (Nat.le_refl _)⟩
theorem forms_row (W : World) (ht : Tab W) (n : Int) (_ : (Lit.int .i64 n).wf = true) : Calls Tryz.prog 5 #[.int .i64 n] W fun e W' => e = .returned (.bool true) ∧ Below W.heap.size W W' :=
  (forms_ok n W ht).mono fun _ _ h => ⟨h.1, h.2.below (fun _ _ h => h) (Nat.le_refl _)⟩
end Go.Proofs.YthaegncocdddfaaGreatDoor

/- The card of tattlelaw15.DocForms. -/
namespace Go.Proofs.YthaegncocdddfaaGreatDoor.docForms
set_option linter.unusedVariables false
set_option linter.unusedSimpArgs false
open Go.ChangeShapes Go.WideShapes Go.ChangeAt Go.RowKit Go.Tt
open Go.ChangeMaps (open_string shut_string)
set_option linter.unusedVariables false
set_option maxRecDepth 100000 in
theorem contract (H : Type) (enc : TypeId × Value → H) (W : World) (base : Nat) (args : Array Value) (ds gs : List (DataW H)) (before : List MemPlace)
    (hval0 : ∀ (j : Nat) t v, Tryz.f5.params[j]? = some t → args[j]? = some v → Value.okWide Tryz.prog W .any base t v)
    (hW : DataW.Whole enc Tryz.prog Tryz.f5.params.toList Rows.docFormsSpec.vars false W args.toList ds gs before)
    (hsz0 : (DataW.weightsEach Tryz.prog (Tryz.f5.params.toList ++ Rows.docFormsSpec.plain.varTypes Tryz.prog) (ds ++ gs)).all (· ≤ reachBytes) = true)
    (hL : laidMetH Tryz.prog tabs W) :
    Calls Tryz.prog 5 args W fun e W' => ∃ v, e = .returned v ∧ Rows.docFormsSpec.post enc Tryz.prog Tryz.f5 false true false false W args v W' := by
  have hval : ∀ (j : Nat) t v, Tryz.f5.params[j]? = some t → args[j]? = some v → Value.okWide Tryz.prog W .any base t v := hval0
  have hW' := hW
  obtain ⟨p, q, hA0, hV, rfl, hfz, hnd⟩ := hW
  have hA : DataW.TrodAll enc Tryz.prog W 0 (fun _ => true) true Tryz.f5.params.toList args.toList ds p := hA0
  rw [Tryz.params5] at hA hval
  have hB := hA
  obtain ⟨v0, vs0, d0, ds0, p0, q0, hargs, rfl, rfl, h0, r0⟩ := trodAll_cons hA
  obtain ⟨rfl, rfl, rfl⟩ := trodAll_nil r0
  obtain rfl : args = #[v0] := by cases args; simp_all
  obtain ⟨rfl, rfl⟩ := trodVars_none hV
  obtain ⟨a0, rfl, e0, _, w0⟩ := open_int Tryz.underlying3 (hval 0 3 v0 rfl rfl) h0
  refine (forms_row W (table hL) a0 w0).mono fun e W' ⟨he, bel⟩ => ?_
  subst he
  exact ⟨_, rfl, _, _, _, [], _, [], hW', trodAll_mk1 (shut_bool Tryz.underlying4 _), below_trodAll laidOut bel (by kernel_rfl) hB (trodAll_lt hB), rfl, bel.frame _, fun h => by cases h⟩
theorem laid_met (os : Os) : laidMet Tryz.prog Rows.docFormsRow.laid ((laidWorld os).forCall (fun _ _ => 0) ⟨#[], #[.int .i64 0], []⟩).memory :=
  laidMet_of_run' 8 (by kernel_rfl) (by kernel_rfl)
noncomputable def rdW (os : Os) {H : Type} (enc : TypeId × Value → H) : Option (List (DataW H) × List (DataW H) × List MemPlace) := DataW.whole enc Tryz.prog ((laidWorld os).forCall (fun _ _ => 0) ⟨#[], #[.int .i64 0], []⟩).memory Tryz.f5.params.toList Rows.docFormsSpec.vars false (#[.int .i64 0] : Array Value).toList 8
theorem rdW_some (os : Os) {H : Type} (enc : TypeId × Value → H) : (rdW os enc).isSome = true := by kernel_rfl
theorem reads (os : Os) {H : Type} (enc : TypeId × Value → H) : rdW os enc = some (((rdW os enc).get (rdW_some os enc)).1, ((rdW os enc).get (rdW_some os enc)).2.1, ((rdW os enc).get (rdW_some os enc)).2.2) := get_parts (rdW os enc) (rdW_some os enc)
set_option maxRecDepth 100000 in
theorem lifted (os : Os) (started : os.Started) (H : Type) (enc : TypeId × Value → H) (G : Stop.Interp) :
    ReturnsInHanded {} Tryz.checked os 5 .any ((OpenSpec.ofChange Rows.docFormsSpec).preRow enc Tryz.prog Tryz.f5 Rows.docFormsRow.domain false Rows.docFormsRow.laid) (((OpenSpec.ofChange Rows.docFormsSpec).at G).post enc Tryz.prog Tryz.f5 false true false false) := by
  have hx := reads os enc
  refine returnsInHanded_of_row (C := Tryz.checked) (s := OpenSpec.ofChange Rows.docFormsSpec) own started (by kernel_rfl) Tryz.func5
    (witness_row_at (enc := enc) (C := Tryz.checked) false (laidWorld os) #[.int .i64 0] rfl (by kernel_rfl) (by kernel_rfl) (by kernel_rfl) (OpenSpec.preRow_of_cond 8 hx (by kernel_rfl) (fun k hk => by cases hk) (by kernel_rfl) (laid_met os))) ?_
  intro W base args ds gs before hval hW _ hcond hsz hL _ _
  exact contract H enc W base args ds gs before hval hW hsz hL
theorem said : Rows.DocFormsSaid :=
  OpenClaim.holds_of_cond 5 Tryz.f5 rfl rfl rfl rfl rfl rfl rfl ⟨rfl, rfl, rfl, rfl, rfl⟩ rfl rfl rfl rfl rfl (by kernel_rfl) Tryz.func5 (by kernel_rfl)
    (of_decide_eq_true (by kernel_rfl)) (by unfold Func.isWrapper; first | (rw [if_pos (by decide +kernel)]; kernel_rfl) | (rw [if_neg (by decide +kernel)]; exact ⟨rfl, rfl⟩))
    (fun os started H enc _ G => by rw [OpenClaim.pre_eq_preRow]; exact lifted os started H enc G)
theorem plain (f : FuncId) (fn : Func) (hf : Tryz.pinned.checked.prog.funcNamed "tattle/tattlelaw15.DocForms" = some f) (hfn : Tryz.pinned.checked.prog.funcs[f]? = some fn) :
    true = Tryz.pinned.checked.prog.looks [] ∧ ∀ (j : Nat) t, fn.params[j]? = some t → Tryz.pinned.checked.prog.wantsStandIn t = false := by
  obtain rfl : f = 5 := Option.some.inj ((show Tryz.prog.funcNamed "tattle/tattlelaw15.DocForms" = some 5 by kernel_rfl).symm.trans hf) |>.symm
  obtain rfl : fn = Tryz.f5 := (Option.some.inj (Tryz.func5.symm.trans hfn)).symm
  refine ⟨by kernel_rfl, fun j t ht => ?_⟩
  rw [Tryz.params5] at ht
  have ht := Array.mem_of_getElem? ht
  simp only [List.mem_toArray, List.mem_cons, List.not_mem_nil, or_false] at ht
  rcases ht with rfl
  · exact (show Tryz.prog.wantsStandIn 3 = false by kernel_rfl)
theorem card : Rows.DocFormsCardSaid :=
  Claim7.holds_tied_plain_at .later [] _ _ _ _ said (fun _ h => by cases h) (by kernel_rfl) (fun _ h => by cases h) docForms_row_tie rfl ⟨rfl, rfl⟩ (by kernel_rfl) rfl plain (by kernel_rfl)
end Go.Proofs.YthaegncocdddfaaGreatDoor.docForms
namespace Go.Proofs.YthaegncocdddfaaGreatDoor
set_option linter.unusedVariables false
set_option linter.unusedSimpArgs false
/-- The card, under a short name, for the claim. -/
theorem docForms_holds : Rows.DocFormsCardSaid := docForms.card
#print axioms docForms_holds
end Go.Proofs.YthaegncocdddfaaGreatDoor

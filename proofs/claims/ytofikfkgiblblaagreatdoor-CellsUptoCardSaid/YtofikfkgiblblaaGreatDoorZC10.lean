/- Merged: LCellsR RowCCells. -/
import Derived.Test.YtofikfkgiblblaaGreatDoorQ26
import Derived.Test.YtofikfkgiblblaaGreatDoorZC0
import Derived.Test.YtofikfkgiblblaaGreatDoorZC9
set_option linter.unusedVariables false
set_option linter.unusedSimpArgs false
/- Cells at what the row hands in, within the bulk. -/
namespace Go.Proofs.YtofikfkgiblblaaGreatDoor
set_option linter.unusedVariables false
set_option linter.unusedSimpArgs false
open Go.RowKit Go.Lib Go.Tt Go.WideShapes
theorem wgt_leM : ∀ {l : List ByteArray}, (∀ x ∈ l, x.size ≤ 1048576) → wgt l ≤ 6291459 * l.length
  | [], _ => Nat.le_refl _
  | s :: l, h => by
    have h1 := h s List.mem_cons_self
    have h2 := wgt_leM (l := l) fun x hx => h x (List.mem_cons_of_mem _ hx)
    unfold wgt; rw [List.length_cons]; omega
theorem toldR_of {c : CellV} (h : CellM 1048576 1048576 c) : ToldR c := by
  have hv := h.v
  have he := h.ne
  have hl := h.nl
  refine ⟨by omega, ?_, ?_⟩
  · have h1 : (valsOf c.ents).length ≤ c.ents.length := by
      unfold valsOf
      have := Lib.compact_length_le (sortB (c.ents.map fun e => e.2.2))
      rw [sortB_len, List.length_map] at this
      exact this
    have hw := wgt_leM (l := valsOf c.ents) fun x hx => by
      obtain ⟨e, he, rfl⟩ := mem_valsOf.1 hx
      exact h.e e he
    omega
  · have h1 : (valsL c.elems).length ≤ c.elems.length := by
      unfold valsL mapV
      rw [List.length_map]
      exact List.length_filter_le _ _
    have hw := wgt_leM (l := valsL c.elems) fun x hx => by
      obtain ⟨e, he, rfl⟩ := List.mem_map.1 hx
      exact h.l e (List.mem_filter.1 he).1
    omega
set_option maxRecDepth 100000 in
theorem lcells_row {base : Nat} (w : World) (tab : Tab w) {v0 v1 v2 : Value} (ok0 : Value.okWide Tryz.prog w .any base 30 v0) (h0 : RdU w 30 v0.cells.toList) (ok1 : Value.okWide Tryz.prog w .any base 35 v1) (h1 : RdU w 35 v1.cells.toList)
    (ok2 : Value.okWide Tryz.prog w .any base 28 v2) (h2 : RdU w 28 v2.cells.toList) (kd : Int) (_ : (Lit.int .i64 kd).wf = true) (n : Int) (_ : (Lit.int .i64 n).wf = true) : Calls Tryz.prog 3 #[v0, v1, v2, .int .i64 kd, .int .i64 n] w fun e w' => e = .returned (.bool true) ∧ Below w.heap.size w w' := by
  obtain ⟨c, ve, vl, vs, rfl, hR, hB, hM⟩ := cellA_of (rdr_u w) ok0 h0
  obtain ⟨o, vd, vo, rfl, hO, hN⟩ := opA_of (rdr_u w) ok1 h1
  obtain ⟨a, nl, ml, rfl⟩ := okWide_slice Tryz.underlying28 ok2
  obtain ⟨l, hl, -, -, -⟩ := (rdr_u w).slices (E := eInt) (fun _ => True) Tryz.underlying28 c_int (fun _ h => in_of (rdr_u w) h) h2
  exact (lcells_ok tab hR hB (hM.z (by omega)) (toldR_of hM) hO (hN.b (by omega)) hN.bd hN.bo hl kd n).mono fun e w' ⟨he, f⟩ => ⟨he, f.below (fun _ _ h => h) (Nat.le_refl _)⟩
end Go.Proofs.YtofikfkgiblblaaGreatDoor
/- The card of tattlelaw12.Cells (the second form). -/
namespace Go.Proofs.YtofikfkgiblblaaGreatDoor.cellsUpto
open Go.ChangeShapes Go.WideShapes Go.ChangeAt Go.RowKit Go.Tt
open Go.ChangeMaps (open_string shut_string)
set_option linter.unusedVariables false
set_option maxRecDepth 100000 in
theorem contract (H : Type) (enc : TypeId × Value → H) (W : World) (base : Nat) (args : Array Value) (ds gs : List (DataW H)) (before : List MemPlace)
    (hval0 : ∀ (j : Nat) t v, Tryz.f3.params[j]? = some t → args[j]? = some v → Value.okWide Tryz.prog W .any base t v)
    (hW : DataW.Whole enc Tryz.prog Tryz.f3.params.toList Rows.cellsSpec.vars false W args.toList ds gs before)
    (hsz0 : (DataW.weightsEach Tryz.prog (Tryz.f3.params.toList ++ Rows.cellsSpec.plain.varTypes Tryz.prog) (ds ++ gs)).all (· ≤ reachBytes) = true)
    (hk : Rows.uptoSmall H (ds ++ gs) = true)
    (hL : laidMetH Tryz.prog tabs W) :
    Calls Tryz.prog 3 args W fun e W' => ∃ v, e = .returned v ∧ Rows.cellsSpec.post enc Tryz.prog Tryz.f3 false true false false W args v W' := by
  have hval : ∀ (j : Nat) t v, Tryz.f3.params[j]? = some t → args[j]? = some v → Value.okWide Tryz.prog W .any base t v := hval0
  have hW' := hW
  obtain ⟨p, q, hA0, hV, rfl, hfz, hnd⟩ := hW
  have hA : DataW.TrodAll enc Tryz.prog W 0 (fun _ => true) true Tryz.f3.params.toList args.toList ds p := hA0
  rw [Tryz.params3] at hA hval
  have hB := hA
  obtain ⟨v0, vs0, d0, ds0, p0, q0, hargs, rfl, rfl, h0, r0⟩ := trodAll_cons hA
  obtain ⟨v1, vs1, d1, ds1, p1, q1, rfl, rfl, rfl, h1, r1⟩ := trodAll_cons r0
  obtain ⟨v2, vs2, d2, ds2, p2, q2, rfl, rfl, rfl, h2, r2⟩ := trodAll_cons r1
  obtain ⟨v3, vs3, d3, ds3, p3, q3, rfl, rfl, rfl, h3, r3⟩ := trodAll_cons r2
  obtain ⟨v4, vs4, d4, ds4, p4, q4, rfl, rfl, rfl, h4, r4⟩ := trodAll_cons r3
  obtain ⟨rfl, rfl, rfl⟩ := trodAll_nil r4
  obtain rfl : args = #[v0, v1, v2, v3, v4] := by cases args; simp_all
  obtain ⟨rfl, rfl⟩ := trodVars_none hV
  obtain ⟨a3, rfl, e3, _, w3⟩ := open_int Tryz.underlying3 (hval 3 3 v3 rfl rfl) h3
  obtain ⟨a4, rfl, e4, _, w4⟩ := open_int Tryz.underlying3 (hval 4 3 v4 rfl rfl) h4
  refine (lcells_row W (table hL) (hval 0 30 v0 rfl rfl) (rdu_of h0 hsz0 hk (j := 0) rfl rfl) (hval 1 35 v1 rfl rfl) (rdu_of h1 hsz0 hk (j := 1) rfl rfl) (hval 2 28 v2 rfl rfl) (rdu_of h2 hsz0 hk (j := 2) rfl rfl) a3 w3 a4 w4).mono fun e W' ⟨he, bel⟩ => ?_
  subst he
  exact ⟨_, rfl, _, _, _, [], _, [], hW', trodAll_mk1 (shut_bool Tryz.underlying4 _), below_trodAll laidOut bel (by kernel_rfl) hB (trodAll_lt hB), rfl, bel.frame _, fun h => by cases h⟩
theorem laid_met (os : Os) : laidMet Tryz.prog Rows.cellsUptoRow.laid ((laidWorld os).forCall (fun _ _ => 0) ⟨#[], #[.agg #[.int .i64 0, .bool false, .int .i64 0, .int .i64 0, .string ⟨#[]⟩, .int .i64 0, .int .i64 0, .slice none 0 0, .slice none 0 0, .slice none 0 0], .agg #[.int .i64 0, .int .i64 0, .int .i64 0, .slice none 0 0, .int .i64 0, .string ⟨#[]⟩, .string ⟨#[]⟩, .string ⟨#[]⟩, .string ⟨#[]⟩, .int .i64 0, .int .i64 0, .int .i64 0, .int .i64 0, .slice none 0 0], .slice none 0 0, .int .i64 0, .int .i64 0], []⟩).memory :=
  laidMet_of_run' 8 (by kernel_rfl) (by kernel_rfl)
noncomputable def rdW (os : Os) {H : Type} (enc : TypeId × Value → H) : Option (List (DataW H) × List (DataW H) × List MemPlace) := DataW.whole enc Tryz.prog ((laidWorld os).forCall (fun _ _ => 0) ⟨#[], #[.agg #[.int .i64 0, .bool false, .int .i64 0, .int .i64 0, .string ⟨#[]⟩, .int .i64 0, .int .i64 0, .slice none 0 0, .slice none 0 0, .slice none 0 0], .agg #[.int .i64 0, .int .i64 0, .int .i64 0, .slice none 0 0, .int .i64 0, .string ⟨#[]⟩, .string ⟨#[]⟩, .string ⟨#[]⟩, .string ⟨#[]⟩, .int .i64 0, .int .i64 0, .int .i64 0, .int .i64 0, .slice none 0 0], .slice none 0 0, .int .i64 0, .int .i64 0], []⟩).memory Tryz.f3.params.toList Rows.cellsSpec.vars false (#[.agg #[.int .i64 0, .bool false, .int .i64 0, .int .i64 0, .string ⟨#[]⟩, .int .i64 0, .int .i64 0, .slice none 0 0, .slice none 0 0, .slice none 0 0], .agg #[.int .i64 0, .int .i64 0, .int .i64 0, .slice none 0 0, .int .i64 0, .string ⟨#[]⟩, .string ⟨#[]⟩, .string ⟨#[]⟩, .string ⟨#[]⟩, .int .i64 0, .int .i64 0, .int .i64 0, .int .i64 0, .slice none 0 0], .slice none 0 0, .int .i64 0, .int .i64 0] : Array Value).toList 8
theorem rdW_some (os : Os) {H : Type} (enc : TypeId × Value → H) : (rdW os enc).isSome = true := by kernel_rfl
theorem reads (os : Os) {H : Type} (enc : TypeId × Value → H) : rdW os enc = some (((rdW os enc).get (rdW_some os enc)).1, ((rdW os enc).get (rdW_some os enc)).2.1, ((rdW os enc).get (rdW_some os enc)).2.2) := get_parts (rdW os enc) (rdW_some os enc)
set_option maxRecDepth 100000 in
theorem lifted (os : Os) (started : os.Started) (H : Type) (enc : TypeId × Value → H) (G : Stop.Interp) :
    ReturnsInHanded {} Tryz.checked os 3 .any ((Rows.OpenSpec.upto Rows.cellsSpec).preRow enc Tryz.prog Tryz.f3 Rows.cellsUptoRow.domain false Rows.cellsUptoRow.laid) (((Rows.OpenSpec.upto Rows.cellsSpec).at G).post enc Tryz.prog Tryz.f3 false true false false) := by
  have hx := reads os enc
  refine returnsInHanded_of_row (C := Tryz.checked) (s := Rows.OpenSpec.upto Rows.cellsSpec) own started (by kernel_rfl) Tryz.func3
    (witness_row_at (enc := enc) (C := Tryz.checked) false (laidWorld os) #[.agg #[.int .i64 0, .bool false, .int .i64 0, .int .i64 0, .string ⟨#[]⟩, .int .i64 0, .int .i64 0, .slice none 0 0, .slice none 0 0, .slice none 0 0], .agg #[.int .i64 0, .int .i64 0, .int .i64 0, .slice none 0 0, .int .i64 0, .string ⟨#[]⟩, .string ⟨#[]⟩, .string ⟨#[]⟩, .string ⟨#[]⟩, .int .i64 0, .int .i64 0, .int .i64 0, .int .i64 0, .slice none 0 0], .slice none 0 0, .int .i64 0, .int .i64 0] rfl (by kernel_rfl) (by kernel_rfl) (by kernel_rfl) (OpenSpec.preRow_of_cond 8 hx (by kernel_rfl) (fun k hk => by cases hk; kernel_rfl) (by kernel_rfl) (laid_met os))) ?_
  intro W base args ds gs before hval hW _ hcond hsz hL _ _
  exact contract H enc W base args ds gs before hval hW hsz (hcond _ rfl) hL
theorem said : Rows.CellsUptoSaid :=
  OpenClaim.holds_of_cond 3 Tryz.f3 rfl rfl rfl rfl rfl rfl rfl ⟨rfl, rfl, rfl, rfl, rfl⟩ rfl rfl rfl rfl rfl (by kernel_rfl) Tryz.func3 (by kernel_rfl)
    (of_decide_eq_true (by kernel_rfl)) (by unfold Func.isWrapper; first | (rw [if_pos (by decide +kernel)]; kernel_rfl) | (rw [if_neg (by decide +kernel)]; exact ⟨rfl, rfl⟩))
    (fun os started H enc _ G => by rw [OpenClaim.pre_eq_preRow]; exact lifted os started H enc G)
theorem plain (f : FuncId) (fn : Func) (hf : Tryz.pinned.checked.prog.funcNamed "tattle/tattlelaw12.Cells" = some f) (hfn : Tryz.pinned.checked.prog.funcs[f]? = some fn) :
    false = Tryz.pinned.checked.prog.looks [] ∧ ∀ (j : Nat) t, fn.params[j]? = some t → Tryz.pinned.checked.prog.wantsStandIn t = false := by
  obtain rfl : f = 3 := Option.some.inj ((show Tryz.prog.funcNamed "tattle/tattlelaw12.Cells" = some 3 by kernel_rfl).symm.trans hf) |>.symm
  obtain rfl : fn = Tryz.f3 := (Option.some.inj (Tryz.func3.symm.trans hfn)).symm
  refine ⟨by kernel_rfl, fun j t ht => ?_⟩
  rw [Tryz.params3] at ht
  have ht := Array.mem_of_getElem? ht
  simp only [List.mem_toArray, List.mem_cons, List.not_mem_nil, or_false] at ht
  rcases ht with rfl | rfl | rfl | rfl | rfl
  · exact (show Tryz.prog.wantsStandIn 30 = false by kernel_rfl)
  · exact (show Tryz.prog.wantsStandIn 35 = false by kernel_rfl)
  · exact (show Tryz.prog.wantsStandIn 28 = false by kernel_rfl)
  · exact (show Tryz.prog.wantsStandIn 3 = false by kernel_rfl)
  · exact (show Tryz.prog.wantsStandIn 3 = false by kernel_rfl)
theorem card : Rows.CellsUptoCardSaid :=
  Claim7.holds_tied_plain_at .later [] _ _ _ _ said (fun _ h => by cases h) (by kernel_rfl) (fun _ h => by cases h) cellsUpto_row_tie rfl ⟨rfl, rfl⟩ (by kernel_rfl) rfl plain (by kernel_rfl)
end Go.Proofs.YtofikfkgiblblaaGreatDoor.cellsUpto
namespace Go.Proofs.YtofikfkgiblblaaGreatDoor
/-- The card, under a short name, for the claim. -/
theorem cellsUpto_holds : Rows.CellsUptoCardSaid := cellsUpto.card
#print axioms cellsUpto_holds
end Go.Proofs.YtofikfkgiblblaaGreatDoor

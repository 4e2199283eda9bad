/- Merged: Open9 OpenC LNewR RowCNew. -/
import Derived.Test.YtofikfkgiblblaaGreatDoorQ00
import Derived.Test.YtofikfkgiblblaaGreatDoorQ02
import Derived.Test.YtofikfkgiblblaaGreatDoorQ06
import Derived.Test.YtofikfkgiblblaaGreatDoorQ08
import Derived.Test.YtofikfkgiblblaaGreatDoorQ26
import Derived.Test.YtofikfkgiblblaaGreatDoorQ43
/- Arguments of the sets' laws, opened. -/
namespace Go.Proofs.YtofikfkgiblblaaGreatDoor
set_option linter.unusedVariables false
set_option linter.unusedSimpArgs false
set_option linter.unusedVariables false
set_option linter.unusedSimpArgs false
open Go.RowKit Go.Lib Go.Tt Go.WideShapes
set_option maxRecDepth 10000
/-- Texts that came in, with their bound. -/
def eStrR : Enc {s : ByteArray // s.size ≤ reachBytes} := ⟨1, fun s => [.string s.1], fun _ => rfl, fun x u hu => by simp at hu; subst hu; rfl, by decide⟩
theorem strsR {w : World} {v : Value} {l : List {s : ByteArray // s.size ≤ reachBytes}} (h : RdS w eStrR v l) : RdS w eStr v (l.map (·.1)) := by
  obtain ⟨a, c, rfl, h1, h2, h3, h4⟩ := h
  have hf : eStr.flat (l.map (·.1)) = eStrR.flat l := by
    induction l with
    | nil => rfl
    | cons x l ih => exact congrArg (Value.string x.1 :: ·) (by
        clear h1 h3 h4 ih
        induction l with
        | nil => rfl
        | cons y l ih => exact congrArg (Value.string y.1 :: ·) ih)
  exact ⟨a, c, by rw [List.length_map], by rw [List.length_map]; exact h1, h2, by rw [List.length_map]; exact h3, by rw [List.length_map, hf]; exact h4⟩
theorem strs_of {base : Nat} {w : World} {v : Value} (ok : Value.okWide Tryz.prog w .any base 65 v) (h : Rd Tryz.prog w 65 v.cells.toList) : ∃ l, RdS w eStr v l ∧ ∀ x ∈ l, x.size ≤ reachBytes := by
  obtain ⟨a, n, c, rfl⟩ := okWide_slice Tryz.underlying65 ok
  obtain ⟨l, hl, -⟩ := rdS_of (E := eStrR) rfl ⟨a, n, c, rfl⟩ Tryz.underlying65 (by kernel_rfl) (fun cs hR => by
    obtain ⟨s, rfl, hs⟩ := hR.string Tryz.underlying9
    exact ⟨⟨s, hs⟩, rfl⟩) h
  exact ⟨_, strsR hl, fun x hx => by obtain ⟨y, -, rfl⟩ := List.mem_map.1 hx; exact y.2⟩
end Go.Proofs.YtofikfkgiblblaaGreatDoor

/- A cell, a dot that came in, opened. -/
namespace Go.Proofs.YtofikfkgiblblaaGreatDoor
set_option linter.unusedVariables false
set_option linter.unusedSimpArgs false
open Go.RowKit Go.Lib Go.Tt Go.WideShapes
set_option maxRecDepth 10000
theorem c_int : Tryz.prog.cellsOf 3 = 1 := by kernel_rfl
theorem c_str : Tryz.prog.cellsOf 9 = 1 := by kernel_rfl
theorem c_bool : Tryz.prog.cellsOf 4 = 1 := by kernel_rfl
theorem c_dot : Tryz.prog.cellsOf 32 = 2 := by kernel_rfl
theorem c_stamp : Tryz.prog.cellsOf 23 = 2 := by kernel_rfl
theorem c_pair : Tryz.prog.cellsOf 25 = 2 := by kernel_rfl
theorem c_en : Tryz.prog.cellsOf 62 = 3 := by kernel_rfl
theorem c_el : Tryz.prog.cellsOf 59 = 5 := by kernel_rfl
theorem c_cell : Tryz.prog.cellsOf 30 = 10 := by kernel_rfl
theorem c_ens : Tryz.prog.cellsOf 26 = 1 := by kernel_rfl
theorem c_els : Tryz.prog.cellsOf 27 = 1 := by kernel_rfl
theorem c_ints : Tryz.prog.cellsOf 28 = 1 := by kernel_rfl
theorem rd_int {w : World} {x : Value} (h : Rd Tryz.prog w 3 [x]) : ∃ n, x = .int .i64 n := by
  obtain ⟨n, h, -⟩ := h.int Tryz.underlying3
  exact ⟨n, by simpa using h⟩
theorem rd_str {w : World} {x : Value} (h : Rd Tryz.prog w 9 [x]) : ∃ s, x = .string s := by
  obtain ⟨s, h, -⟩ := h.string Tryz.underlying9
  exact ⟨s, by simpa using h⟩
theorem rd_bool {w : World} {x : Value} (h : Rd Tryz.prog w 4 [x]) : ∃ b, x = .bool b := by
  obtain ⟨b, h⟩ := h.bool Tryz.underlying4
  exact ⟨b, by simpa using h⟩
theorem rd_dot {w : World} {cs : List Value} (h : Rd Tryz.prog w 32 cs) : ∃ d : Dt, eDt.f d = cs := by
  obtain ⟨hl, hf⟩ := h.struct Tryz.underlying32
  rw [c_dot] at hl
  match cs, hl with
  | [x, y], _ =>
    have h0 := hf _ (List.mem_cons_self)
    have h1 := hf _ (List.mem_cons_of_mem _ List.mem_cons_self)
    simp only [c_int] at h0 h1
    obtain ⟨a, rfl⟩ := rd_int h0
    obtain ⟨b, rfl⟩ := rd_int h1
    exact ⟨(a, b), rfl⟩
theorem rd_two {w : World} {t : TypeId} {cs : List Value} (h : Rd Tryz.prog w t cs) (ht : t = 23 ∨ t = 25) : ∃ a b : Int, cs = [.int .i64 a, .int .i64 b] := by
  rcases ht with rfl | rfl
  · obtain ⟨hl, hf⟩ := h.struct Tryz.underlying23
    rw [c_stamp] at hl
    match cs, hl with
    | [x, y], _ =>
      have h0 := hf _ (List.mem_cons_self)
      have h1 := hf _ (List.mem_cons_of_mem _ List.mem_cons_self)
      simp only [c_int] at h0 h1
      obtain ⟨a, rfl⟩ := rd_int h0
      obtain ⟨b, rfl⟩ := rd_int h1
      exact ⟨a, b, rfl⟩
  · obtain ⟨hl, hf⟩ := h.struct Tryz.underlying25
    rw [c_pair] at hl
    match cs, hl with
    | [x, y], _ =>
      have h0 := hf _ (List.mem_cons_self)
      have h1 := hf _ (List.mem_cons_of_mem _ List.mem_cons_self)
      simp only [c_int] at h0 h1
      obtain ⟨a, rfl⟩ := rd_int h0
      obtain ⟨b, rfl⟩ := rd_int h1
      exact ⟨a, b, rfl⟩
theorem rd_en {w : World} {cs : List Value} (h : Rd Tryz.prog w 62 cs) : ∃ x : En, eEn.f x = cs := by
  obtain ⟨hl, hf⟩ := h.struct Tryz.underlying62
  rw [c_en] at hl
  match cs, hl with
  | [x, y, z], _ =>
    have h0 := hf _ (List.mem_cons_self)
    have h1 := hf _ (List.mem_cons_of_mem _ List.mem_cons_self)
    simp only [c_dot, c_str] at h0 h1
    obtain ⟨d, hd⟩ := rd_dot h0
    obtain ⟨s, rfl⟩ := rd_str h1
    have e : eDt.f d = [x, y] := hd
    simp only [eDt, List.cons.injEq, and_true] at e
    exact ⟨(d.1, d.2, s), by rw [← e.1, ← e.2]; rfl⟩
theorem rd_el {w : World} {cs : List Value} (h : Rd Tryz.prog w 59 cs) : ∃ x : El, eEl.f x = cs := by
  obtain ⟨hl, hf⟩ := h.struct Tryz.underlying59
  rw [c_el] at hl
  match cs, hl with
  | [x, y, z, u, t], _ =>
    have h0 := hf _ (List.mem_cons_self)
    have h1 := hf _ (List.mem_cons_of_mem _ List.mem_cons_self)
    have h2 := hf _ (List.mem_cons_of_mem _ (List.mem_cons_of_mem _ List.mem_cons_self))
    have h3 := hf _ (List.mem_cons_of_mem _ (List.mem_cons_of_mem _ (List.mem_cons_of_mem _ List.mem_cons_self)))
    simp only [c_dot, c_int, c_str, c_bool] at h0 h1 h2 h3
    obtain ⟨d, hd⟩ := rd_dot h0
    obtain ⟨n, rfl⟩ := rd_int h1
    obtain ⟨s, rfl⟩ := rd_str h2
    obtain ⟨b, rfl⟩ := rd_bool h3
    have e : eDt.f d = [x, y] := hd
    simp only [eDt, List.cons.injEq, and_true] at e
    exact ⟨(d.1, d.2, n, s, b), by rw [← e.1, ← e.2]; rfl⟩
/-- A slice's value that reads. -/
theorem rd_sl {w : World} {t e : TypeId} {x : Value} (ht : Tryz.prog.underlying t = some (.slice e)) (h : Rd Tryz.prog w t [x]) : ∃ a n c, x = .slice a n c := by
  rcases h.slice ht with h | ⟨a, n, c, h, -⟩
  · exact ⟨none, 0, 0, by simpa using h⟩
  · exact ⟨some a, n, c, by simpa using h⟩
theorem cell_of {base : Nat} {w : World} {v : Value} (ok : Value.okWide Tryz.prog w .any base 30 v) (h : Rd Tryz.prog w 30 v.cells.toList) : ∃ c ve vl vs, v = cval c ve vl vs ∧ CellR w c ve vl vs ∧ CellB c := by
  obtain ⟨cs, rfl, hsz⟩ := okWide_struct Tryz.underlying30 ok
  obtain ⟨hl, hf⟩ := h.struct Tryz.underlying30
  have hcs : (Value.agg cs).cells.toList = cs.toList := rfl
  rw [hcs, c_cell] at hl
  simp only [hcs] at hf
  obtain ⟨l, rfl⟩ : ∃ l : List Value, cs = l.toArray := ⟨cs.toList, by simp⟩
  simp only [List.toList_toArray] at hf hl
  match l, hl with
  | [x0, x1, x2, x3, x4, x5, x6, x7, x8, x9], _ =>
    have h0 := hf _ List.mem_cons_self
    have h1 := hf _ (List.mem_cons_of_mem _ List.mem_cons_self)
    have h2 := hf _ (List.mem_cons_of_mem _ (List.mem_cons_of_mem _ List.mem_cons_self))
    have h3 := hf _ (List.mem_cons_of_mem _ (List.mem_cons_of_mem _ (List.mem_cons_of_mem _ List.mem_cons_self)))
    have h4 := hf _ (List.mem_cons_of_mem _ (List.mem_cons_of_mem _ (List.mem_cons_of_mem _ (List.mem_cons_of_mem _ List.mem_cons_self))))
    have h5 := hf _ (List.mem_cons_of_mem _ (List.mem_cons_of_mem _ (List.mem_cons_of_mem _ (List.mem_cons_of_mem _ (List.mem_cons_of_mem _ List.mem_cons_self)))))
    have h6 := hf _ (List.mem_cons_of_mem _ (List.mem_cons_of_mem _ (List.mem_cons_of_mem _ (List.mem_cons_of_mem _ (List.mem_cons_of_mem _ (List.mem_cons_of_mem _ List.mem_cons_self))))))
    have h7 := hf _ (List.mem_cons_of_mem _ (List.mem_cons_of_mem _ (List.mem_cons_of_mem _ (List.mem_cons_of_mem _ (List.mem_cons_of_mem _ (List.mem_cons_of_mem _ (List.mem_cons_of_mem _ List.mem_cons_self)))))))
    simp only [c_int, c_bool, c_stamp, c_str, c_pair, c_ens, c_els, c_ints] at h0 h1 h2 h3 h4 h5 h6 h7
    clear hf hsz h ok
    obtain ⟨k, rfl⟩ := rd_int h0
    obtain ⟨b, rfl⟩ := rd_bool h1
    obtain ⟨s1, s2, hs⟩ := rd_two h2 (.inl rfl)
    obtain ⟨s, rfl⟩ := rd_str h3
    obtain ⟨n1, n2, hn⟩ := rd_two h4 (.inr rfl)
    have hs' : [x2, x3] = [Value.int .i64 s1, .int .i64 s2] := hs
    have hn' : [x5, x6] = [Value.int .i64 n1, .int .i64 n2] := hn
    simp only [List.cons.injEq, and_true] at hs' hn'
    obtain ⟨rfl, rfl⟩ := hs'
    obtain ⟨rfl, rfl⟩ := hn'
    obtain ⟨E, hE, bE⟩ := rdS_of (P := Tryz.prog) (E := eEn) (v := x7) (cs := [x7]) (by obtain ⟨a, n, c, rfl⟩ := rd_sl Tryz.underlying26 h5; rfl) (rd_sl Tryz.underlying26 h5) Tryz.underlying26 c_en (fun _ h => rd_en h) h5
    obtain ⟨M, hM, bM⟩ := rdS_of (P := Tryz.prog) (E := eEl) (v := x8) (cs := [x8]) (by obtain ⟨a, n, c, rfl⟩ := rd_sl Tryz.underlying27 h6; rfl) (rd_sl Tryz.underlying27 h6) Tryz.underlying27 c_el (fun _ h => rd_el h) h6
    obtain ⟨I, hI, bI⟩ := rdS_of (P := Tryz.prog) (E := eInt) (v := x9) (cs := [x9]) (by obtain ⟨a, n, c, rfl⟩ := rd_sl Tryz.underlying28 h7; rfl) (rd_sl Tryz.underlying28 h7) Tryz.underlying28 c_int (fun cs h => by
      obtain ⟨n, rfl, -⟩ := h.int Tryz.underlying3
      exact ⟨n, rfl⟩) h7
    rw [show Tryz.prog.bytesOf 62 = 32 by kernel_rfl] at bE
    rw [show Tryz.prog.bytesOf 59 = 48 by kernel_rfl] at bM
    rw [show Tryz.prog.bytesOf 3 = 8 by kernel_rfl] at bI
    exact ⟨⟨k, b, (s1, s2), s, (n1, n2), E, M, I⟩, x7, x8, x9, rfl, ⟨hE, hM, hI⟩, ⟨bE, bM, bI⟩⟩
theorem dot_of {base : Nat} {w : World} {v : Value} (ok : Value.okWide Tryz.prog w .any base 32 v) (h : Rd Tryz.prog w 32 v.cells.toList) : ∃ d : Dt, v = .agg #[.int .i64 d.1, .int .i64 d.2] := by
  obtain ⟨cs, rfl, hsz⟩ := okWide_struct Tryz.underlying32 ok
  obtain ⟨d, hd⟩ := rd_dot h
  have e : eDt.f d = cs.toList := hd
  exact ⟨d, by rw [show cs = cs.toList.toArray by simp, ← e]; rfl⟩
theorem dots_of {base : Nat} {w : World} {v : Value} (ok : Value.okWide Tryz.prog w .any base 33 v) (h : Rd Tryz.prog w 33 v.cells.toList) : ∃ l, RdS w eDt v l ∧ l.length * 16 ≤ reachBytes := by
  obtain ⟨a, n, c, rfl⟩ := okWide_slice Tryz.underlying33 ok
  obtain ⟨l, hl, hb⟩ := rdS_of (E := eDt) rfl ⟨a, n, c, rfl⟩ Tryz.underlying33 c_dot (fun _ h => rd_dot h) h
  rw [show Tryz.prog.bytesOf 32 = 16 by kernel_rfl] at hb
  exact ⟨l, hl, hb⟩
end Go.Proofs.YtofikfkgiblblaaGreatDoor

/- CellNew at what the row hands in. -/
namespace Go.Proofs.YtofikfkgiblblaaGreatDoor
set_option linter.unusedVariables false
set_option linter.unusedSimpArgs false
open Go.RowKit Go.Lib Go.Tt Go.WideShapes
set_option maxRecDepth 10000
theorem ints_of {base : Nat} {w : World} {v : Value} (ok : Value.okWide Tryz.prog w .any base 28 v) (h : Rd Tryz.prog w 28 v.cells.toList) : ∃ l, RdS w eInt v l ∧ l.length * 8 ≤ reachBytes := by
  obtain ⟨a, n, c, rfl⟩ := okWide_slice Tryz.underlying28 ok
  obtain ⟨l, hl, hb⟩ := rdS_of (E := eInt) rfl ⟨a, n, c, rfl⟩ Tryz.underlying28 c_int (fun cs h => by
    obtain ⟨n, h1, -⟩ := h.int Tryz.underlying3
    exact ⟨n, h1.symm⟩) h
  rw [show Tryz.prog.bytesOf 3 = 8 by kernel_rfl] at hb
  exact ⟨l, hl, hb⟩
set_option maxRecDepth 100000 in
theorem lnew_row {base : Nat} (w : World) (tab : Tab w) (k : Int) (_ : (Lit.int .i64 k).wf = true) (n : Int) (_ : (Lit.int .i64 n).wf = true) {v : Value} (ok : Value.okWide Tryz.prog w .any base 28 v) (h : Rd Tryz.prog w 28 v.cells.toList) : Calls Tryz.prog 6 #[.int .i64 k, .int .i64 n, v] w fun e w' => e = .returned (.bool true) ∧ Below w.heap.size w w' := by
  obtain ⟨l, hl, -⟩ := ints_of ok h
  obtain ⟨a, m, c, rfl⟩ := okWide_slice Tryz.underlying28 ok
  exact (lnew_ok tab k n hl).mono fun e w' ⟨he, f⟩ => ⟨he, f.below (fun _ _ h => h) (Nat.le_refl _)⟩
end Go.Proofs.YtofikfkgiblblaaGreatDoor

/- The card of tattlelaw12.CellNew. -/
namespace Go.Proofs.YtofikfkgiblblaaGreatDoor.cellNew
set_option linter.unusedVariables false
set_option linter.unusedSimpArgs false
open Go.ChangeShapes Go.WideShapes Go.ChangeAt Go.RowKit Go.Tt
open Go.ChangeMaps (open_string shut_string)
set_option linter.unusedVariables false
set_option maxRecDepth 100000 in
theorem contract (H : Type) (enc : TypeId × Value → H) (W : World) (base : Nat) (args : Array Value) (ds gs : List (DataW H)) (before : List MemPlace)
    (hval0 : ∀ (j : Nat) t v, Tryz.f6.params[j]? = some t → args[j]? = some v → Value.okWide Tryz.prog W .any base t v)
    (hW : DataW.Whole enc Tryz.prog Tryz.f6.params.toList Rows.cellNewSpec.vars false W args.toList ds gs before)
    (hsz0 : (DataW.weightsEach Tryz.prog (Tryz.f6.params.toList ++ Rows.cellNewSpec.plain.varTypes Tryz.prog) (ds ++ gs)).all (· ≤ reachBytes) = true)
    (hL : laidMetH Tryz.prog tabs W) :
    Calls Tryz.prog 6 args W fun e W' => ∃ v, e = .returned v ∧ Rows.cellNewSpec.post enc Tryz.prog Tryz.f6 false true false false W args v W' := by
  have hval : ∀ (j : Nat) t v, Tryz.f6.params[j]? = some t → args[j]? = some v → Value.okWide Tryz.prog W .any base t v := hval0
  have hW' := hW
  obtain ⟨p, q, hA0, hV, rfl, hfz, hnd⟩ := hW
  have hA : DataW.TrodAll enc Tryz.prog W 0 (fun _ => true) true Tryz.f6.params.toList args.toList ds p := hA0
  rw [Tryz.params6] at hA hval
  have hB := hA
  obtain ⟨v0, vs0, d0, ds0, p0, q0, hargs, rfl, rfl, h0, r0⟩ := trodAll_cons hA
  obtain ⟨v1, vs1, d1, ds1, p1, q1, rfl, rfl, rfl, h1, r1⟩ := trodAll_cons r0
  obtain ⟨v2, vs2, d2, ds2, p2, q2, rfl, rfl, rfl, h2, r2⟩ := trodAll_cons r1
  obtain ⟨rfl, rfl, rfl⟩ := trodAll_nil r2
  obtain rfl : args = #[v0, v1, v2] := by cases args; simp_all
  obtain ⟨rfl, rfl⟩ := trodVars_none hV
  obtain ⟨a0, rfl, e0, _, w0⟩ := open_int Tryz.underlying3 (hval 0 3 v0 rfl rfl) h0
  obtain ⟨a1, rfl, e1, _, w1⟩ := open_int Tryz.underlying3 (hval 1 3 v1 rfl rfl) h1
  refine (lnew_row W (table hL) a0 w0 a1 w1 (hval 2 28 v2 rfl rfl) (rd_of_trod h2 hsz0 (j := 2) rfl rfl)).mono fun e W' ⟨he, bel⟩ => ?_
  subst he
  exact ⟨_, rfl, _, _, _, [], _, [], hW', trodAll_mk1 (shut_bool Tryz.underlying4 _), below_trodAll laidOut bel (by kernel_rfl) hB (trodAll_lt hB), rfl, bel.frame _, fun h => by cases h⟩
theorem laid_met (os : Os) : laidMet Tryz.prog Rows.cellNewRow.laid ((laidWorld os).forCall (fun _ _ => 0) ⟨#[], #[.int .i64 0, .int .i64 0, .slice .none 0 0], []⟩).memory :=
  laidMet_of_run' 8 (by kernel_rfl) (by kernel_rfl)
noncomputable def rdW (os : Os) {H : Type} (enc : TypeId × Value → H) : Option (List (DataW H) × List (DataW H) × List MemPlace) := DataW.whole enc Tryz.prog ((laidWorld os).forCall (fun _ _ => 0) ⟨#[], #[.int .i64 0, .int .i64 0, .slice .none 0 0], []⟩).memory Tryz.f6.params.toList Rows.cellNewSpec.vars false (#[.int .i64 0, .int .i64 0, .slice .none 0 0] : Array Value).toList 8
theorem rdW_some (os : Os) {H : Type} (enc : TypeId × Value → H) : (rdW os enc).isSome = true := by kernel_rfl
theorem reads (os : Os) {H : Type} (enc : TypeId × Value → H) : rdW os enc = some (((rdW os enc).get (rdW_some os enc)).1, ((rdW os enc).get (rdW_some os enc)).2.1, ((rdW os enc).get (rdW_some os enc)).2.2) := get_parts (rdW os enc) (rdW_some os enc)
set_option maxRecDepth 100000 in
theorem lifted (os : Os) (started : os.Started) (H : Type) (enc : TypeId × Value → H) (G : Stop.Interp) :
    ReturnsInHanded {} Tryz.checked os 6 .any ((OpenSpec.ofChange Rows.cellNewSpec).preRow enc Tryz.prog Tryz.f6 Rows.cellNewRow.domain false Rows.cellNewRow.laid) (((OpenSpec.ofChange Rows.cellNewSpec).at G).post enc Tryz.prog Tryz.f6 false true false false) := by
  have hx := reads os enc
  refine returnsInHanded_of_row (C := Tryz.checked) (s := OpenSpec.ofChange Rows.cellNewSpec) own started (by kernel_rfl) Tryz.func6
    (witness_row_at (enc := enc) (C := Tryz.checked) false (laidWorld os) #[.int .i64 0, .int .i64 0, .slice .none 0 0] rfl (by kernel_rfl) (by kernel_rfl) (by kernel_rfl) (OpenSpec.preRow_of_cond 8 hx (by kernel_rfl) (fun k hk => by cases hk) (by kernel_rfl) (laid_met os))) ?_
  intro W base args ds gs before hval hW _ hcond hsz hL _ _
  exact contract H enc W base args ds gs before hval hW hsz hL
theorem said : Rows.CellNewSaid :=
  OpenClaim.holds_of_cond 6 Tryz.f6 rfl rfl rfl rfl rfl rfl rfl ⟨rfl, rfl, rfl, rfl, rfl⟩ rfl rfl rfl rfl rfl (by kernel_rfl) Tryz.func6 (by kernel_rfl)
    (of_decide_eq_true (by kernel_rfl)) (by unfold Func.isWrapper; first | (rw [if_pos (by decide +kernel)]; kernel_rfl) | (rw [if_neg (by decide +kernel)]; exact ⟨rfl, rfl⟩))
    (fun os started H enc _ G => by rw [OpenClaim.pre_eq_preRow]; exact lifted os started H enc G)
theorem plain (f : FuncId) (fn : Func) (hf : Tryz.pinned.checked.prog.funcNamed "tattle/tattlelaw12.CellNew" = some f) (hfn : Tryz.pinned.checked.prog.funcs[f]? = some fn) :
    false = Tryz.pinned.checked.prog.looks [] ∧ ∀ (j : Nat) t, fn.params[j]? = some t → Tryz.pinned.checked.prog.wantsStandIn t = false := by
  obtain rfl : f = 6 := Option.some.inj ((show Tryz.prog.funcNamed "tattle/tattlelaw12.CellNew" = some 6 by kernel_rfl).symm.trans hf) |>.symm
  obtain rfl : fn = Tryz.f6 := (Option.some.inj (Tryz.func6.symm.trans hfn)).symm
  refine ⟨by kernel_rfl, fun j t ht => ?_⟩
  rw [Tryz.params6] at ht
  have ht := Array.mem_of_getElem? ht
  simp only [List.mem_toArray, List.mem_cons, List.not_mem_nil, or_false] at ht
  rcases ht with rfl | rfl | rfl
  · exact (show Tryz.prog.wantsStandIn 3 = false by kernel_rfl)
  · exact (show Tryz.prog.wantsStandIn 3 = false by kernel_rfl)
  · exact (show Tryz.prog.wantsStandIn 28 = false by kernel_rfl)
theorem card : Rows.CellNewCardSaid :=
  Claim7.holds_tied_plain_at .later [] _ _ _ _ said (fun _ h => by cases h) (by kernel_rfl) (fun _ h => by cases h) cellNew_row_tie rfl ⟨rfl, rfl⟩ (by kernel_rfl) rfl plain (by kernel_rfl)
end Go.Proofs.YtofikfkgiblblaaGreatDoor.cellNew
namespace Go.Proofs.YtofikfkgiblblaaGreatDoor
set_option linter.unusedVariables false
set_option linter.unusedSimpArgs false
/-- The card, under a short name, for the claim. -/
theorem cellNew_holds : Rows.CellNewCardSaid := cellNew.card
#print axioms cellNew_holds
end Go.Proofs.YtofikfkgiblblaaGreatDoor

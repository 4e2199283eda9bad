/- Merged: Cells0 DocW1 Blk DocW2. -/
import Derived.Test.YthaegncocdddfaaGreatDoorProg
import Derived.Deep.LoopGhost
import Derived.Laws.CopyRow
import Derived.Test.YthaegncocdddfaaGreatDoorK02
import Derived.Test.YthaegncocdddfaaGreatDoorK04
import Derived.Test.YthaegncocdddfaaGreatDoorK07
/- The elements of cells: dots, entries, elements of lists; how they are told by their cells. -/
namespace Go.Proofs.YthaegncocdddfaaGreatDoor
set_option linter.unusedVariables false
set_option linter.unusedSimpArgs false
set_option linter.unusedVariables false
set_option linter.unusedSimpArgs false
open Go.RowKit Go.Lib Go.Tt

abbrev Dt := Int × Int
abbrev En := Int × Int × ByteArray
abbrev El := Int × Int × Int × ByteArray × Bool
def eInt : Enc Int := ⟨1, fun n => [.int .i64 n], fun _ => rfl, fun x u hu => by simp at hu; subst hu; rfl, by decide⟩
def eStr : Enc ByteArray := ⟨1, fun s => [.string s], fun _ => rfl, fun x u hu => by simp at hu; subst hu; rfl, by decide⟩
def eDt : Enc Dt := ⟨2, fun d => [.int .i64 d.1, .int .i64 d.2], fun _ => rfl, fun x u hu => by simp at hu; rcases hu with rfl | rfl <;> rfl, by decide⟩
def eEn : Enc En := ⟨3, fun d => [.int .i64 d.1, .int .i64 d.2.1, .string d.2.2], fun _ => rfl, fun x u hu => by simp at hu; rcases hu with rfl | rfl | rfl <;> rfl, by decide⟩
def eEl : Enc El := ⟨5, fun d => [.int .i64 d.1, .int .i64 d.2.1, .int .i64 d.2.2.1, .string d.2.2.2.1, .bool d.2.2.2.2], fun _ => rfl, fun x u hu => by simp at hu; rcases hu with rfl | rfl | rfl | rfl | rfl <;> rfl, by decide⟩

theorem i_int : (Tryz.prog.info? 3).map (fun i => (i.zero, i.size, i.bytes)) = some (some (.int .i64 0), eInt.k, 8) := by kernel_rfl
theorem i_str : (Tryz.prog.info? 9).map (fun i => (i.zero, i.size, i.bytes)) = some (some (.string ByteArray.empty), eStr.k, 16) := by kernel_rfl
end Go.Proofs.YthaegncocdddfaaGreatDoor

/- The parser's steps, walked: peek, mark, word, take, want, name, known. -/
namespace Go.Proofs.YthaegncocdddfaaGreatDoor
set_option linter.unusedVariables false
set_option linter.unusedSimpArgs false
open Go.RowKit Go.Lib Go.Tt
/-- Block pb is a parser that stands at p; its tokens lie below. -/
def PAt (w : World) (pb : Nat) (p : PS) : Prop := ∃ a n c, w.heap[pb]? = some (.cells #[.slice a n c, .bool p.bad] 70 (0, 0)) ∧ RdB w (fun k => k < pb) eTk (.slice a n c) p.ts
theorem PAt.frm {w w' : World} {pb : Nat} {p : PS} {F : Nat → Prop} (h : PAt w pb p) (f : Frm F w w') (h1 : ¬ F pb) (h2 : ∀ k, k < pb → ¬ F k) : PAt w' pb p := by
  obtain ⟨a, n, c, hb, hr⟩ := h
  exact ⟨a, n, c, f.obj hb h1, hr.frm f fun k _ hk => h2 k hk⟩
theorem PAt.no {w w' : World} {pb : Nat} {p : PS} (h : PAt w pb p) (f : Frm No w w') : PAt w' pb p := h.frm f (fun h => h) fun _ _ h => h
theorem PAt.lt {w : World} {pb : Nat} {p : PS} (h : PAt w pb p) : pb < w.heap.size := by
  obtain ⟨a, n, c, hb, _⟩ := h; exact lt_of_block hb
def tval (t : Tk) : Value := .agg #[.int .i64 t.kind, .string t.text, .int .i64 t.int, .int .i64 t.pos]
theorem tl_eq (a b : ByteArray) : (a.toList == b.toList) = eqB a b := by rw [ByteArray.toList_eq, ByteArray.toList_eq]; rfl
set_option maxRecDepth 100000 in
theorem peek_ok {w : World} {pb : Nat} {p : PS} (h : PAt w pb p) :
    Calls Tryz.prog 38 #[.pointer (some ⟨pb, 0, none⟩)] w fun e w' => e = .returned (tval p.peek) ∧ Frm No w w' := by
  obtain ⟨a, n, c, hb, hr, -⟩ := h
  obtain ⟨hn, hnc, hcm, -⟩ := hr.facts
  have nb := lt_of_block hb
  have c0 : w.cell? ⟨pb, 0, none⟩ = some (.slice a n c) := obj_cell hb 0
  have c1 : w.cell? ⟨pb, 1, none⟩ = some (.bool p.bad) := obj_cell hb 1
  cases hbad : p.bad with
  | true =>
    rw [peek_bad hbad]
    rw [hbad] at c1
    go_enter Tryz.func38, Tryz.ntmps38
    go_wp2
    refine bodyPost_ret (v := tval noTk) (by simp [results, Tryz.results38, go_sem, tval, noTk, noTx, *]) rfl ?_
    exact ⟨rfl, (Frm.refl No w).al _⟩
  | false =>
    rw [hbad] at c1
    cases hts : p.ts with
    | nil =>
      rw [peek_nil hts]
      rw [hts] at hn
      obtain rfl : n = 0 := hn
      go_enter Tryz.func38, Tryz.ntmps38
      go_wp2
      refine bodyPost_ret (v := tval noTk) (by simp [results, Tryz.results38, go_sem, tval, noTk, noTx, *]) rfl ?_
      exact ⟨rfl, (Frm.refl No w).al _⟩
    | cons t r =>
      rw [peek_cons hbad hts]
      rw [hts] at hr hn
      obtain ⟨b, off, rfl, hbl, hc⟩ := hr.at (i := 0) (by simp)
      have e0 : w.cell? ⟨b, off, none⟩ = some (.int .i64 t.kind) := by have := hc 0 _ rfl; simpa using this
      have e1 : w.cell? ⟨b, off + 1, none⟩ = some (.string t.text) := by have := hc 1 _ rfl; simpa using this
      have e2 : w.cell? ⟨b, off + 2, none⟩ = some (.int .i64 t.int) := by have := hc 2 _ rfl; simpa using this
      have e3 : w.cell? ⟨b, off + 3, none⟩ = some (.int .i64 t.pos) := by have := hc 3 _ rfl; simpa using this
      clear hc hb hr hts hbad
      have hpos : 0 < n := by rw [hn]; simp
      have hne : ((n : Int) == 0) = false := by simp; omega
      clear hn
      go_enter Tryz.func38, Tryz.ntmps38
      go_wp2
      refine bodyPost_ret (v := tval t) (by simp [results, Tryz.results38, go_sem, tval, *]) rfl ?_
      exact ⟨rfl, (Frm.refl No w).al _⟩
set_option maxRecDepth 100000 in
theorem pmark_ok {w : World} {pb : Nat} {p : PS} (h : PAt w pb p) (s : ByteArray) :
    Calls Tryz.prog 71 #[.pointer (some ⟨pb, 0, none⟩), .string s] w fun e w' => e = .returned (.bool (p.mark s)) ∧ Frm No w w' := by
  have hpk := peek_ok h
  obtain ⟨R, hR⟩ : ∃ R, Hid (R = p.mark s) := ⟨_, Lib.hid rfl⟩
  rw [← hR.out]
  clear h
  have hte := tl_eq p.peek.text s
  unfold tval at hpk
  unfold PS.mark at hR
  cases hk : decide (p.peek.kind = 3) with
  | false =>
    have hk' : (p.peek.kind == 3) = false := by simpa using hk
    have hv : Hid (R = false) := Lib.hid (by rw [hR.out, hk]; rfl)
    clear hk hte
    go_enter Tryz.func71, Tryz.ntmps71
    go_wp2_with (fail)
    refine hpk.mono ?_
    rintro e w1 ⟨rfl, f1⟩
    go_wp2
    go_ret
    exact ⟨by rw [hv.out]; rfl, f1.al _⟩
  | true =>
    have hk' : (p.peek.kind == 3) = true := by simpa using hk
    have hv : Hid (R = eqB p.peek.text s) := Lib.hid (by rw [hR.out, hk]; rfl)
    clear hk
    cases hq : eqB p.peek.text s with
    | false =>
      rw [hq] at hte hv
      clear hq
      go_enter Tryz.func71, Tryz.ntmps71
      go_wp2_with (fail)
      refine hpk.mono ?_
      rintro e w1 ⟨rfl, f1⟩
      go_wp2
      go_ret
      exact ⟨by rw [hv.out]; rfl, f1.al _⟩
    | true =>
      rw [hq] at hte hv
      clear hq
      go_enter Tryz.func71, Tryz.ntmps71
      go_wp2_with (fail)
      refine hpk.mono ?_
      rintro e w1 ⟨rfl, f1⟩
      go_wp2
      go_ret
      exact ⟨by rw [hv.out]; rfl, f1.al _⟩
set_option maxRecDepth 100000 in
theorem pword_ok {w : World} {pb : Nat} {p : PS} (h : PAt w pb p) (s : ByteArray) :
    Calls Tryz.prog 35 #[.pointer (some ⟨pb, 0, none⟩), .string s] w fun e w' => e = .returned (.bool (p.word s)) ∧ Frm No w w' := by
  have hpk := peek_ok h
  obtain ⟨R, hR⟩ : ∃ R, Hid (R = p.word s) := ⟨_, Lib.hid rfl⟩
  rw [← hR.out]
  clear h
  have hte := tl_eq p.peek.text s
  unfold tval at hpk
  unfold PS.word at hR
  cases hk : decide (p.peek.kind = 0) with
  | false =>
    have hk' : (p.peek.kind == 0) = false := by simpa using hk
    have hv : Hid (R = false) := Lib.hid (by rw [hR.out, hk]; rfl)
    clear hk hte
    go_enter Tryz.func35, Tryz.ntmps35
    go_wp2_with (fail)
    refine hpk.mono ?_
    rintro e w1 ⟨rfl, f1⟩
    go_wp2
    go_ret
    exact ⟨by rw [hv.out]; rfl, f1.al _⟩
  | true =>
    have hk' : (p.peek.kind == 0) = true := by simpa using hk
    have hv : Hid (R = eqB p.peek.text s) := Lib.hid (by rw [hR.out, hk]; rfl)
    clear hk
    cases hq : eqB p.peek.text s with
    | false =>
      rw [hq] at hte hv
      clear hq
      go_enter Tryz.func35, Tryz.ntmps35
      go_wp2_with (fail)
      refine hpk.mono ?_
      rintro e w1 ⟨rfl, f1⟩
      go_wp2
      go_ret
      exact ⟨by rw [hv.out]; rfl, f1.al _⟩
    | true =>
      rw [hq] at hte hv
      clear hq
      go_enter Tryz.func35, Tryz.ntmps35
      go_wp2_with (fail)
      refine hpk.mono ?_
      rintro e w1 ⟨rfl, f1⟩
      go_wp2
      go_ret
      exact ⟨by rw [hv.out]; rfl, f1.al _⟩
end Go.Proofs.YthaegncocdddfaaGreatDoor

/- A whole struct stored into its block, in one step. No program in sight. -/
namespace Go.Tt
set_option linter.unusedVariables false
set_option linter.unusedSimpArgs false
open Go.RowKit Go.Lib
section
variable {P : Program}
theorem run_sto (w : World) {b : Nat} {cs : Array Value} {vs : List Value} {t : TypeId} (hB : w.heap[b]? = some (.cells cs t (0, 0))) (hi : (P.info? t).map (·.size) = some vs.length) (hl : cs.size = vs.length) (one : ∀ v ∈ vs, v.oneCell' = true) :
    (Instr.storeAt t (.pointer (some ⟨b, 0, none⟩)) (.agg vs.toArray)).run P w = .ok () (w.setRow b vs.toArray) := by
  obtain ⟨i, hi', hs⟩ := Option.map_eq_some_iff.1 hi
  have hst := run_storeCells_at P b 0 t vs 0 cs w hB (by omega) one
  have e : (cs.toList.take (0 + 0) ++ vs ++ cs.toList.drop (0 + 0 + vs.length)).toArray = vs.toArray := by
    rw [List.drop_of_length_le (by rw [Array.length_toList]; omega)]
    simp
  rw [e] at hst
  simp [Instr.storeAt, Instr.sureAddr, storeVar, sizeOf, typeInfo, hi', hs, Value.cells, hst]
theorem wpList_sto (w : World) {ops : Array Oper} {rest : List Oper} {o : Oper} {a : Act} {Q : Exit → Act → World → Prop} (hgd : o.guard = none) (p x : Operand) (t : TypeId) (ho : o.op = .store t p x)
    {b : Nat} {cs : Array Value} {vs : List Value} (hB : w.heap[b]? = some (.cells cs t (0, 0))) (hi : (P.info? t).map (·.size) = some vs.length) (hl : cs.size = vs.length) (one : ∀ v ∈ vs, v.oneCell' = true)
    (hp : a.eval p = .pointer (some ⟨b, 0, none⟩)) (hx : a.eval x = .agg vs.toArray)
    (h : ∀ w', w'.heap[b]? = some (.cells vs.toArray t (0, 0)) → Frm (fun k => k = b) w w' → w'.heap.size = w.heap.size → wpList P ops Q rest (a.put o.dst undef) w') : wpList P ops Q (o :: rest) a w := by
  refine wpList_plain hgd fun K hK => ?_
  have hr := run_sto (P := P) w hB hi hl one
  unfold Oper.wp
  simp [execOp, ho, hp, hx, hr, Result.andThen]
  exact hK _ _ (h _ (setRow_heap w b cs _ t _ hB) ⟨rfl, rfl, rfl, by simp, fun k _ hk => setRow_other w b k _ hk⟩ (by simp))
end
end Go.Tt

/- The parser's steps, walked: take, want, name, known. -/
namespace Go.Proofs.YthaegncocdddfaaGreatDoor
set_option linter.unusedVariables false
set_option linter.unusedSimpArgs false
open Go.RowKit Go.Lib Go.Tt
theorem PAt.set {w : World} {pb : Nat} {a : Option Addr} {n c : Nat} {b0 : Bool} {ts : List Tk} (hb : w.heap[pb]? = some (.cells #[.slice a n c, .bool b0] 70 (0, 0))) (hr : RdB w (fun k => k < pb) eTk (.slice a n c) ts) (b : Bool) : PAt (w.setCell ⟨pb, 1, none⟩ (.bool b)) pb ⟨ts, b⟩ := by
  refine ⟨a, n, c, ?_, hr.frm (G := fun k => k = pb) (Frm.setCell w ⟨pb, 1, none⟩ _ rfl) fun k _ hk e => by omega⟩
  have := obj_setCell (i := 1) hb (.bool b)
  simpa using this
/-- The tokens without their first. -/
theorem RdB.tail {w : World} {F : Nat → Prop} {b off n c : Nat} {t : Tk} {r : List Tk} (h : RdB w F eTk (.slice (some ⟨b, off, none⟩) n c) (t :: r)) : RdB w F eTk (.slice (some ⟨b, off + 4, none⟩) (n - 1) (c - 1)) r := by
  obtain ⟨h1, h2⟩ := h
  obtain ⟨hn, hnc, hcm, -⟩ := h1.facts
  obtain ⟨a', c', e, _, _, _, h5⟩ := h1
  simp only [Value.slice.injEq] at e
  obtain ⟨rfl, rfl, rfl⟩ := e
  obtain ⟨b', off', e, hc⟩ := h5 (by simp)
  simp only [Option.some.injEq, Addr.mk.injEq] at e
  obtain ⟨rfl, rfl, -⟩ := e
  have e1 : (t :: r).length - 1 = r.length := by simp
  rw [e1]
  refine ⟨⟨_, _, rfl, by simp at hnc; omega, by omega, (by intro h; cases h), fun hl => ⟨_, _, rfl, fun m u hu => ?_⟩⟩, fun g hg => ?_⟩
  · have := hc (4 + m) u (by rw [eTk.flat_cons, List.getElem?_append_right (by rw [eTk.len]; show 4 ≤ _; omega), eTk.len]; rw [show 4 + m - eTk.k = m from by show 4 + m - 4 = m; omega]; exact hu)
    rw [Nat.add_assoc]
    exact this
  · refine h2 g ?_
    cases hl : r.length with
    | zero => rw [hl] at hg; simp [sblk] at hg
    | succ k => rw [hl] at hg; simpa [sblk] using hg
set_option maxHeartbeats 1000000 in
set_option maxRecDepth 100000 in
theorem take_ok {w : World} {pb : Nat} {p : PS} (h : PAt w pb p) :
    Calls Tryz.prog 39 #[.pointer (some ⟨pb, 0, none⟩)] w fun e w' => e = .returned (tval p.peek) ∧ PAt w' pb p.adv ∧ Frm (fun k => k = pb) w w' := by
  have HP := Lib.hid (fun W (f : Frm No w W) => peek_ok (h.no f))
  obtain ⟨a, n, c, hb, hr⟩ := h
  have nb := lt_of_block hb
  have hA : Hid (p.adv = if p.peek.kind < 0 then ⟨p.ts, true⟩ else ⟨p.ts.tail, p.bad⟩) := Lib.hid rfl
  have B0 := heap_alloc_new w (.cells #[.int .i64 0, .string ⟨#[]⟩, .int .i64 0, .int .i64 0] 104 (0, 0))
  have F0 : Frm No w (w.alloc (.cells #[.int .i64 0, .string ⟨#[]⟩, .int .i64 0, .int .i64 0] 104 (0, 0))) := (Frm.refl No w).al _
  by_cases hk : p.peek.kind < 0
  · have hA' : Hid (p.adv = ⟨p.ts, true⟩) := Lib.hid (hA.out.trans (if_pos hk))
    clear hA
    unfold tval at HP ⊢
    go_enter Tryz.func39, Tryz.ntmps39
    go_wp2_with (fail)
    refine (HP.out _ F0).mono ?_
    rintro e w1 ⟨rfl, f1⟩
    have B1 := f1.obj B0 (fun h => h)
    have F1 := F0.trans f1
    have hb1 := F1.obj hb (fun h => h)
    have hr1 := hr.frm F1 fun _ _ _ h => h
    have n1 := lt_of_block B1
    have nb1 := lt_of_block hb1
    have zb := obj_frz hb1
    have q1 : w1.cell? ⟨pb, 1, none⟩ = some (.bool p.bad) := obj_cell hb1 1
    clear HP hb hr B0 F0
    go_wp2_with (refine wpList_sto _ rfl (.tmp 2) (.tmp 12) 104 rfl (al_old (obj_setCell_ne B1 (by omega) _)) (by kernel_rfl) (by rfl) (eTk.one p.peek) rfl rfl ?_)
    intro w2 B2 f2 z2
    have t0 : w2.cell? ⟨w.heap.size, 0, none⟩ = some (.int .i64 p.peek.kind) := obj_cell B2 0
    have t1 : w2.cell? ⟨w.heap.size, 1, none⟩ = some (.string p.peek.text) := obj_cell B2 1
    have t2 : w2.cell? ⟨w.heap.size, 2, none⟩ = some (.int .i64 p.peek.int) := obj_cell B2 2
    have t3 : w2.cell? ⟨w.heap.size, 3, none⟩ = some (.int .i64 p.peek.pos) := obj_cell B2 3
    go_wp2
    refine bodyPost_ret (v := tval p.peek) (by simp [results, Tryz.results39, go_sem, tval, *]) rfl ?_
    refine ⟨rfl, ?_, ?_⟩
    · rw [hA'.out]
      exact ((PAt.set hb1 hr1 true).no (Frm.alloc No _ _)).frm f2 (fun e => by omega) fun k hk e => by omega
    · exact ((((F1.mono (G := fun k => k = pb) (fun _ _ h => h.elim)).sc rfl _ _).al _).then f2 fun k hk e => by omega)
  · have hA' : Hid (p.adv = ⟨p.ts.tail, p.bad⟩) := Lib.hid (hA.out.trans (if_neg hk))
    clear hA
    have hbad : p.bad = false := by
      cases hp : p.bad with
      | false => rfl
      | true => rw [peek_bad hp] at hk; exact absurd (by decide) hk
    obtain ⟨t, r, hts⟩ : ∃ t r, p.ts = t :: r := by
      cases hp : p.ts with
      | nil => rw [peek_nil hp] at hk; exact absurd (by decide) hk
      | cons t r => exact ⟨t, r, rfl⟩
    rw [hts] at hr
    obtain ⟨bt, off, rfl, hbl, -⟩ := hr.1.at (i := 0) (by simp)
    obtain ⟨hn, hnc, hcm, -⟩ := hr.1.facts
    have hpos : 0 < n := by rw [hn]; simp
    by_cases hc1 : c = 1
    · subst hc1
      obtain rfl : n = 1 := by omega
      have hr0 : r = [] := List.eq_nil_of_length_eq_zero (by simpa using hn.symm)
      clear hn
      unfold tval at HP ⊢
      go_enter Tryz.func39, Tryz.ntmps39
      go_wp2_with (fail)
      refine (HP.out _ F0).mono ?_
      rintro e w1 ⟨rfl, f1⟩
      have B1 := f1.obj B0 (fun h => h)
      have F1 := F0.trans f1
      have hb1 := F1.obj hb (fun h => h)
      have hr1 := hr.frm F1 fun _ _ _ h => h
      have n1 := lt_of_block B1
      have nb1 := lt_of_block hb1
      have zb := obj_frz hb1
      have q0 : w1.cell? ⟨pb, 0, none⟩ = some (.slice (some ⟨bt, off, none⟩) 1 1) := obj_cell hb1 0
      clear HP hb hr B0 F0
      go_wp2_with (refine wpList_sto _ rfl (.tmp 2) (.tmp 21) 104 rfl (al_old (obj_setCell_ne B1 (by omega) _)) (by kernel_rfl) (by rfl) (eTk.one p.peek) rfl rfl ?_)
      intro w2 B2 f2 z2
      have t0 : w2.cell? ⟨w.heap.size, 0, none⟩ = some (.int .i64 p.peek.kind) := obj_cell B2 0
      have t1 : w2.cell? ⟨w.heap.size, 1, none⟩ = some (.string p.peek.text) := obj_cell B2 1
      have t2 : w2.cell? ⟨w.heap.size, 2, none⟩ = some (.int .i64 p.peek.int) := obj_cell B2 2
      have t3 : w2.cell? ⟨w.heap.size, 3, none⟩ = some (.int .i64 p.peek.pos) := obj_cell B2 3
      go_wp2
      refine bodyPost_ret (v := tval p.peek) (by simp [results, Tryz.results39, go_sem, tval, *]) rfl ?_
      refine ⟨rfl, ?_, ?_⟩
      · rw [hA'.out, hts]
        rw [hr0]
        refine PAt.frm (F := fun k => k = w.heap.size) ?_ f2 (fun e => by omega) fun k hk e => by omega
        refine PAt.no ?_ (Frm.alloc No _ _)
        have := obj_setCell (i := 0) hb1 (.slice (some ⟨bt, off, none⟩) 0 0)
        refine ⟨some ⟨bt, off, none⟩, 0, 0, by simpa using this, ⟨_, _, rfl, Nat.le_refl _, Nat.zero_le _, (by intro h; cases h), fun h => by simp at h⟩, fun g hg => by simp [sblk] at hg⟩
      · exact ((((F1.mono (G := fun k => k = pb) (fun _ _ h => h.elim)).sc rfl _ _).al _).then f2 fun k hk e => by omega)
    · have HN := Lib.hid hn
      clear hn
      unfold tval at HP ⊢
      go_enter Tryz.func39, Tryz.ntmps39
      go_wp2_with (fail)
      refine (HP.out _ F0).mono ?_
      rintro e w1 ⟨rfl, f1⟩
      have B1 := f1.obj B0 (fun h => h)
      have F1 := F0.trans f1
      have hb1 := F1.obj hb (fun h => h)
      have hr1 := hr.frm F1 fun _ _ _ h => h
      have n1 := lt_of_block B1
      have nb1 := lt_of_block hb1
      have zb := obj_frz hb1
      have q0 : w1.cell? ⟨pb, 0, none⟩ = some (.slice (some ⟨bt, off, none⟩) n c) := obj_cell hb1 0
      clear HP hb hr B0 F0
      go_wp2_with (refine wpList_sto _ rfl (.tmp 2) (.tmp 21) 104 rfl (al_old (obj_setCell_ne B1 (by omega) _)) (by kernel_rfl) (by rfl) (eTk.one p.peek) rfl rfl ?_)
      intro w2 B2 f2 z2
      have t0 : w2.cell? ⟨w.heap.size, 0, none⟩ = some (.int .i64 p.peek.kind) := obj_cell B2 0
      have t1 : w2.cell? ⟨w.heap.size, 1, none⟩ = some (.string p.peek.text) := obj_cell B2 1
      have t2 : w2.cell? ⟨w.heap.size, 2, none⟩ = some (.int .i64 p.peek.int) := obj_cell B2 2
      have t3 : w2.cell? ⟨w.heap.size, 3, none⟩ = some (.int .i64 p.peek.pos) := obj_cell B2 3
      go_wp2
      refine bodyPost_ret (v := tval p.peek) (by simp [results, Tryz.results39, go_sem, tval, *]) rfl ?_
      refine ⟨rfl, ?_, ?_⟩
      · rw [hA'.out, hts]
        refine PAt.frm (F := fun k => k = w.heap.size) ?_ f2 (fun e => by omega) fun k hk e => by omega
        refine PAt.no ?_ (Frm.alloc No _ _)
        have := obj_setCell (i := 0) hb1 (.slice (some ⟨bt, off + 4, none⟩) (n - 1) (c - 1))
        refine ⟨some ⟨bt, off + 4, none⟩, n - 1, c - 1, by simpa using this, hr1.tail.frm (G := fun k => k = pb) (Frm.setCell w1 ⟨pb, 0, none⟩ _ rfl) fun k _ hk e => by omega⟩
      · exact ((((F1.mono (G := fun k => k = pb) (fun _ _ h => h.elim)).sc rfl _ _).al _).then f2 fun k hk e => by omega)
end Go.Proofs.YthaegncocdddfaaGreatDoor

/- Merged: ConLn ConB ConX. -/
import Derived.Shelf.Strings.SplitCore
import Derived.Test.YtgpdpalhkkjmiaaGreatDoorV21
import Derived.Test.YtgpdpalhkkjmiaaGreatDoorV24
import Derived.Test.YtgpdpalhkkjmiaaGreatDoorV34
/- The console: a line. -/
namespace Go.Proofs.YtgpdpalhkkjmiaaGreatDoor
set_option linter.unusedVariables false
set_option linter.unusedSimpArgs false
set_option linter.unusedVariables false
set_option linter.unusedSimpArgs false
open Go.RowKit Go.Lib Go.Tt Go.Shelf
def errB (n : Int) : ByteArray := ⟨(errT n).toArray⟩
/-- What a command answers, told. -/
def DoesC (f : Nat) (T : List UInt8) (v : Value) (w : World) : Prop := ∃ (r1 : ByteArray) (r2 : Int), 0 ≤ r2 ∧ r2 ≤ 5000 ∧ (⟨T.toArray⟩ : ByteArray) = (if r2 = 0 then r1 else errB r2) ∧ ∀ W, Frm No w W → Calls Tryz.prog f #[v] W fun e w' => e = .returned (.tuple #[.string r1, .int .i64 r2]) ∧ Frm No W w'
theorem does_of {f : Nat} {T : List UInt8} {v : Value} {w : World} (R : List UInt8 × Int) (h0 : 0 ≤ R.2 ∧ R.2 ≤ 5000) (hT : T = if R.2 = 0 then R.1 else errT R.2) (h : ∀ W, Frm No w W → Calls Tryz.prog f #[v] W fun e w' => e = .returned (.tuple #[.string ⟨R.1.toArray⟩, .int .i64 R.2]) ∧ Frm No W w') : DoesC f T v w :=
  ⟨_, _, h0.1, h0.2, by rw [hT]; unfold errB; split <;> rfl, h⟩
theorem pairR_r (ws : List ByteArray) : (0 ≤ (pairR ws).2 ∧ (pairR ws).2 ≤ 5000) ∧ pairT ws = if (pairR ws).2 = 0 then (pairR ws).1 else errT (pairR ws).2 := by
  unfold pairR pairT
  cases numsL ws with
  | none => exact ⟨⟨by decide, by decide⟩, rfl⟩
  | some ns =>
    by_cases h : ns.length % 2 = 1
    · simp only [h, if_true]; exact ⟨⟨by decide, by decide⟩, rfl⟩
    · simp only [h, if_false]; exact ⟨⟨by decide, by decide⟩, rfl⟩
theorem setR_r (ws : List ByteArray) : (0 ≤ (setR ws).2 ∧ (setR ws).2 ≤ 5000) ∧ setT ws = if (setR ws).2 = 0 then (setR ws).1 else errT (setR ws).2 := by
  unfold setR setT
  cases setG 0 [] ws <;> exact ⟨⟨by simp, by simp⟩, rfl⟩
theorem listR_r (ws : List ByteArray) : (0 ≤ (listR ws).2 ∧ (listR ws).2 ≤ 5000) ∧ listT ws = if (listR ws).2 = 0 then (listR ws).1 else errT (listR ws).2 := by
  unfold listR listT
  cases listG 0 [] ws <;> exact ⟨⟨by simp, by simp⟩, rfl⟩
section
variable {w : World} {a : Option Addr} {n c : Nat} {ws : List ByteArray}
theorem does_pair (ht : Tab w) (h : RdS w eStr (.slice a n c) ws) (hw : wsz ws ≤ 65537) : DoesC 46 (pairT ws) (.slice a n c) w :=
  does_of (pairR ws) (pairR_r ws).1 (pairR_r ws).2 fun W f => consPair_ok (ht.frm f) (h.no f) hw
theorem does_sum (ht : Tab w) (h : RdS w eStr (.slice a n c) ws) (hw : wsz ws ≤ 65537) : DoesC 47 (sumT ws) (.slice a n c) w :=
  does_of (sumT ws, 0) ⟨Int.le_refl _, by simp⟩ rfl fun W f => consSum_ok (ht.frm f) (h.no f) hw
theorem does_set (h : RdS w eStr (.slice a n c) ws) (hw : wsz ws ≤ 65537) : DoesC 48 (setT ws) (.slice a n c) w :=
  does_of (setR ws) (setR_r ws).1 (setR_r ws).2 fun W f => consSet_ok (h.no f) hw
theorem does_list (h : RdS w eStr (.slice a n c) ws) (hw : wsz ws ≤ 65537) : DoesC 49 (listT ws) (.slice a n c) w :=
  does_of (listR ws) (listR_r ws).1 (listR_r ws).2 fun W f => consList_ok (h.no f) hw
end
/-- From the k-th command on. -/
def tellN (w : List UInt8) (ws : List ByteArray) : Nat → List UInt8
  | 0 => if w == nPair then pairT ws else if w == nSum then sumT ws else if w == nSet then setT ws else if w == nList then listT ws else errT 2500
  | 1 => if w == nSum then sumT ws else if w == nSet then setT ws else if w == nList then listT ws else errT 2500
  | 2 => if w == nSet then setT ws else if w == nList then listT ws else errT 2500
  | 3 => if w == nList then listT ws else errT 2500
  | _ => errT 2500
theorem err_ba (n : Int) : (⟨#[101, 114, 114, 111, 114, 32]⟩ : ByteArray) ++ ⟨(Lib.itoa n).toArray⟩ = errB n := by
  unfold errB errT
  apply ByteArray.ext
  simp [ByteArray.data_append]
theorem itoa_lenN (n : Int) (h0 : 0 ≤ n) (h5 : n ≤ 5000) : (Lib.itoa n).length ≤ 21 := Lib.itoa_length_le _ (by omega) (by omega)
/-- words[1:]. -/
theorem run_rest (W : World) {b off n c : Nat} (h1 : 1 ≤ n) (h2 : n ≤ c) :
    (Instr.slice 28 (.slice (some ⟨b, off, none⟩) n c) (some (.int .i64 1)) none none).run Tryz.prog W = .ok (.slice (some ⟨b, if c = 1 then off else off + 1, none⟩) (n - 1) (c - 1)) W := by
  have ht := Tryz.underlying28
  have ht' : Tryz.prog.underlying 28 = some (.slice (Tryz.prog.elem 28)) := by simp [Program.elem, ht]
  have he : Tryz.prog.elem 28 = 9 := by simp [Program.elem, ht]
  have hz : ∀ w, (Go.sizeOf 9).run Tryz.prog w = .ok 1 w := fun w => by kernel_rfl
  rw [run_slice_l W 28 _ _ _ ht' .i64 _ (by omega) (by omega), he, hz]
  by_cases h0 : c = 1
  · subst h0; simp [Result.andThen, sliced]
  · simp [Result.andThen, sliced, Addr.add, h0]
theorem rd_rest {w : World} {b off n c : Nat} {x : ByteArray} {ws : List ByteArray} (h : RdS w eStr (.slice (some ⟨b, off, none⟩) n c) (x :: ws)) : RdS w eStr (.slice (some ⟨b, if c = 1 then off else off + 1, none⟩) (n - 1) (c - 1)) ws := by
  have hn := h.facts
  rw [List.length_cons] at hn
  refine ⟨_, c - 1, by rw [hn.1]; rfl, by omega, by omega, (by intro h; cases h), fun hl => ⟨b, _, rfl, fun m u hu => ?_⟩⟩
  have hc1 : ¬ c = 1 := by omega
  rw [if_neg hc1]
  have hm : m < ws.length := by
    have := (List.getElem?_eq_some_iff.1 hu).1
    rw [eStr.flat_len] at this
    have e : eStr.k = 1 := rfl
    rw [e] at this; omega
  obtain ⟨b', off', e, -, hc⟩ := h.at (i := m + 1) (by rw [List.length_cons]; omega)
  simp only [Option.some.injEq, Addr.mk.injEq, and_true] at e
  obtain ⟨rfl, rfl⟩ := e
  have h1 := hc 0 (.string ws[m]) rfl
  have h2 := eStr.flat_get (l := ws) (i := m) (j := 0) hm eStr.pos
  have e1 : m * eStr.k + 0 = m := by show m * 1 + 0 = m; omega
  rw [e1, hu] at h2
  have h3 : u = .string ws[m] := Option.some.inj h2
  rw [h3]
  rwa [show off + ((m + 1) * eStr.k + 0) = off + 1 + m from by show off + ((m + 1) * 1 + 0) = _; omega] at h1
theorem cmd_ne {w : ByteArray} {l : List UInt8} (h : (w.data.toList == l) = false) : (!(l == w.toList)) = true := by
  rw [ByteArray.toList_eq, Bool.not_eq_true']
  rw [beq_eq_false_iff_ne] at h ⊢
  exact fun e => h e.symm
theorem cmd_eq {w : ByteArray} {l : List UInt8} (h : (w.data.toList == l) = true) : (!(l == w.toList)) = false := by
  rw [ByteArray.toList_eq, Bool.not_eq_false']
  rw [beq_iff_eq] at h ⊢
  exact h.symm
set_option maxHeartbeats 16000000 in
set_option maxRecDepth 100000 in
theorem line_ok {w : World} (ht : Tab w) {a : Option Addr} {n c : Nat} {wd : ByteArray} {ws : List ByteArray} (h : RdS w eStr (.slice a n c) (wd :: ws)) (hw : wsz (wd :: ws) ≤ 65537) :
    Calls Tryz.prog 19 #[.slice a n c] w fun e w' => e = .returned (.string ⟨(tellL wd.data.toList ws).toArray⟩) ∧ Frm No w w' := by
  have hn := h.facts
  have hn0 : 0 < n := by rw [hn.1, List.length_cons]; omega
  obtain ⟨b, off, rfl, hbb, hc⟩ := h.at (i := 0) (by simp)
  have e0 : w.cell? ⟨b, off, none⟩ = some (.string wd) := by have := hc 0 _ rfl; simpa using this
  have hw' : wsz ws ≤ 65537 := by unfold wsz at hw; omega
  obtain ⟨off', hoff⟩ : ∃ o, Hid (o = if c = 1 then off else off + 1) := ⟨_, Lib.hid rfl⟩
  obtain ⟨n', hn'⟩ : ∃ o, Hid (o = n - 1) := ⟨_, Lib.hid rfl⟩
  obtain ⟨c', hc'⟩ : ∃ o, Hid (o = c - 1) := ⟨_, Lib.hid rfl⟩
  have hsl := fun W => run_rest W (b := b) (off := off) (n := n) (c := c) hn0 hn.2.1
  have hrd := rd_rest h
  rw [← hoff.out, ← hn'.out, ← hc'.out] at hsl hrd
  have C0 := Lib.hid (does_pair ht hrd hw')
  have C1 := Lib.hid (does_sum ht hrd hw')
  have C2 := Lib.hid (does_set hrd hw')
  have C3 := Lib.hid (does_list hrd hw')
  have HTAB := Lib.hid ht
  clear hc hn h hw hrd hw' ht
  obtain ⟨T, hT⟩ : ∃ T, Hid (T = tellL wd.data.toList ws) := ⟨_, Lib.hid rfl⟩
  rw [← hT.out]
  go_enter Tryz.func19, Tryz.ntmps19
  go_wp2_with (fail)
  refine (commands_ok _).mono ?_
  rintro e w1 ⟨rfl, hw1⟩
  have B1 : w1.heap[w.heap.size]? = some (.cells #[.string ⟨#[112, 97, 105, 114]⟩, .func (.func 46) #[] #[], .string ⟨#[115, 117, 109]⟩, .func (.func 47) #[] #[], .string ⟨#[115, 101, 116]⟩, .func (.func 48) #[] #[], .string ⟨#[108, 105, 115, 116]⟩, .func (.func 49) #[] #[]] 59 (0, 0)) := by rw [hw1]; exact heap_alloc_new w _
  have F1 : Frm No w w1 := by rw [hw1]; exact (Frm.refl No w).al _
  clear hw1
  go_wp2_with (fail)
  go_loopg [9] (4 + 1) (fun gg iv wr => ∃ (i : Nat), iv = .int .i64 i ∧ i ≤ 4 ∧ gg = 4 - i + 1 ∧ Frm No w1 wr ∧ Hid (T = tellN wd.data.toList ws i))
  case atStart => exact ⟨0, rfl, by omega, rfl, Frm.refl _ _, hT⟩
  case round =>
    obtain ⟨i, rfl, hi, hg, F, HT⟩ := hrel
    rcases (by omega : i = 0 ∨ i = 1 ∨ i = 2 ∨ i = 3 ∨ i = 4) with rfl | rfl | rfl | rfl | rfl
    · have Br := F.obj B1 id
      have c0 : wr.cell? ⟨w.heap.size, 0, none⟩ = some (.string ⟨#[112, 97, 105, 114]⟩) := obj_cell Br 0
      have c1 : wr.cell? ⟨w.heap.size, 1, none⟩ = some (.func (.func 46) #[] #[]) := obj_cell Br 1
      have e1 : wr.cell? ⟨b, off, none⟩ = some (.string wd) := ((F1.trans F).cell hbb id).trans e0
      clear e0
      go_wp2_with (refine wpList_sto (vs := [Value.string ⟨#[112, 97, 105, 114]⟩, .func (.func 46) #[] #[]]) _ rfl (.tmp 4) (.tmp 12) 59 rfl (heap_alloc_new wr _) (by kernel_rfl) (by rfl) (by decide) rfl rfl ?_)
      intro w2 B2 f2 z2
      clear c0 c1
      have c0 : w2.cell? ⟨wr.heap.size, 0, none⟩ = some (.string ⟨#[112, 97, 105, 114]⟩) := obj_cell B2 0
      have c1 : w2.cell? ⟨wr.heap.size, 1, none⟩ = some (.func (.func 46) #[] #[]) := obj_cell B2 1
      have hbr := Nat.lt_of_lt_of_le hbb (F1.trans F).size
      have e2 : w2.cell? ⟨b, off, none⟩ = some (.string wd) := (f2.cell (p := ⟨b, off, none⟩) (by simp; omega) (by show ¬ b = wr.heap.size; omega)).trans ((World.cell?_alloc_old _ _ _ (by show b ≠ _; omega)).trans e1)
      have F2 : Frm No w w2 := (((F1.trans F).al _).then f2 fun k hk h => by have := (F1.trans F).size; omega)
      have G2 : Frm No w1 w2 := ((F.al _).then f2 fun k hk h => by have := F.size; omega)
      clear e1 f2
      cases hq : wd.data.toList == nPair with
      | false =>
        have hb : (!([112, 97, 105, 114] == wd.toList)) = true := cmd_ne hq
        have HT1 : Hid (T = tellN wd.data.toList ws 1) := Lib.hid (by rw [HT.out]; unfold tellN; rw [hq]; rfl)
        clear hq
        go_wp2_with (fail)
        go_quiet (fail)
        go_wp2_with (fail)
        go_roundg (4 - (0 + 1) + 1)
        case measure => omega
        case rel => exact ⟨1, by go_num, by omega, rfl, G2.trans (Frm.drewN No _ _), HT1⟩
      | true =>
        have hb : (!([112, 97, 105, 114] == wd.toList)) = false := cmd_eq hq
        have HT1 : Hid (T = pairT ws) := Lib.hid (by rw [HT.out]; unfold tellN; rw [hq]; rfl)
        obtain ⟨r1, r2, hr0, hr5, hr, HC⟩ := C0.out
        have HC := Lib.hid HC
        have HR := Lib.hid hr
        clear hq hr
        go_wp2_with (fail)
        go_quiet (fail)
        go_wp2_with (fail)
        refine wp_region_plan [([0, 1, 2, 3, 4, 5, 6, 7, 8, 9], [])] 36 (by kernel_rfl) (by kernel_rfl) (by simp) ?_
        intro N hN
        simp only [wpSegs, List.map_cons, List.map_nil, List.getD_cons_zero, List.getD_cons_succ]
        go_wp2_with (fail)
        refine (HC.out _ (F2.trans (Frm.drewN No _ _))).mono ?_
        rintro e w3 ⟨rfl, f3⟩
        have F3 := (F2.trans (Frm.drewN No _ _)).trans f3
        have HI := Lib.hid (fun W (f : Frm No w W) => itoa_ok r2 ⟨by omega, by omega⟩ (HTAB.out.frm f))
        have HE := Lib.hid (err_ba r2)
        have hil := itoa_lenN r2 hr0 hr5
        by_cases h0 : r2 = 0
        · have HR0 : Hid ((⟨T.toArray⟩ : ByteArray) = r1) := Lib.hid (by rw [HT1.out, HR.out, if_pos h0])
          have hz : (r2 != 0) = false := by rw [h0]; rfl
          clear h0
          go_wp2_with (fail)
          go_ret
          rw [HR0.out]
          exact ⟨rfl, F3⟩
        · have HR0 : Hid ((⟨T.toArray⟩ : ByteArray) = errB r2) := Lib.hid (by rw [HT1.out, HR.out, if_neg h0])
          have hz : (r2 != 0) = true := by simp [h0]
          clear h0
          go_wp2_with (fail)
          refine (HI.out _ F3).mono ?_
          rintro e w4 ⟨rfl, f4⟩
          go_wp2_with (fail)
          go_ret
          rw [HR0.out, ← HE.out]
          exact ⟨rfl, F3.trans f4⟩
    · have Br := F.obj B1 id
      have c0 : wr.cell? ⟨w.heap.size, 2, none⟩ = some (.string ⟨#[115, 117, 109]⟩) := obj_cell Br 2
      have c1 : wr.cell? ⟨w.heap.size, 3, none⟩ = some (.func (.func 47) #[] #[]) := obj_cell Br 3
      have e1 : wr.cell? ⟨b, off, none⟩ = some (.string wd) := ((F1.trans F).cell hbb id).trans e0
      clear e0
      go_wp2_with (refine wpList_sto (vs := [Value.string ⟨#[115, 117, 109]⟩, .func (.func 47) #[] #[]]) _ rfl (.tmp 4) (.tmp 12) 59 rfl (heap_alloc_new wr _) (by kernel_rfl) (by rfl) (by decide) rfl rfl ?_)
      intro w2 B2 f2 z2
      clear c0 c1
      have c0 : w2.cell? ⟨wr.heap.size, 0, none⟩ = some (.string ⟨#[115, 117, 109]⟩) := obj_cell B2 0
      have c1 : w2.cell? ⟨wr.heap.size, 1, none⟩ = some (.func (.func 47) #[] #[]) := obj_cell B2 1
      have hbr := Nat.lt_of_lt_of_le hbb (F1.trans F).size
      have e2 : w2.cell? ⟨b, off, none⟩ = some (.string wd) := (f2.cell (p := ⟨b, off, none⟩) (by simp; omega) (by show ¬ b = wr.heap.size; omega)).trans ((World.cell?_alloc_old _ _ _ (by show b ≠ _; omega)).trans e1)
      have F2 : Frm No w w2 := (((F1.trans F).al _).then f2 fun k hk h => by have := (F1.trans F).size; omega)
      have G2 : Frm No w1 w2 := ((F.al _).then f2 fun k hk h => by have := F.size; omega)
      clear e1 f2
      cases hq : wd.data.toList == nSum with
      | false =>
        have hb : (!([115, 117, 109] == wd.toList)) = true := cmd_ne hq
        have HT1 : Hid (T = tellN wd.data.toList ws 2) := Lib.hid (by rw [HT.out]; unfold tellN; rw [hq]; rfl)
        clear hq
        go_wp2_with (fail)
        go_quiet (fail)
        go_wp2_with (fail)
        go_roundg (4 - (1 + 1) + 1)
        case measure => omega
        case rel => exact ⟨2, by go_num, by omega, rfl, G2.trans (Frm.drewN No _ _), HT1⟩
      | true =>
        have hb : (!([115, 117, 109] == wd.toList)) = false := cmd_eq hq
        have HT1 : Hid (T = sumT ws) := Lib.hid (by rw [HT.out]; unfold tellN; rw [hq]; rfl)
        obtain ⟨r1, r2, hr0, hr5, hr, HC⟩ := C1.out
        have HC := Lib.hid HC
        have HR := Lib.hid hr
        clear hq hr
        go_wp2_with (fail)
        go_quiet (fail)
        go_wp2_with (fail)
        refine wp_region_plan [([0, 1, 2, 3, 4, 5, 6, 7, 8, 9], [])] 36 (by kernel_rfl) (by kernel_rfl) (by simp) ?_
        intro N hN
        simp only [wpSegs, List.map_cons, List.map_nil, List.getD_cons_zero, List.getD_cons_succ]
        go_wp2_with (fail)
        refine (HC.out _ (F2.trans (Frm.drewN No _ _))).mono ?_
        rintro e w3 ⟨rfl, f3⟩
        have F3 := (F2.trans (Frm.drewN No _ _)).trans f3
        have HI := Lib.hid (fun W (f : Frm No w W) => itoa_ok r2 ⟨by omega, by omega⟩ (HTAB.out.frm f))
        have HE := Lib.hid (err_ba r2)
        have hil := itoa_lenN r2 hr0 hr5
        by_cases h0 : r2 = 0
        · have HR0 : Hid ((⟨T.toArray⟩ : ByteArray) = r1) := Lib.hid (by rw [HT1.out, HR.out, if_pos h0])
          have hz : (r2 != 0) = false := by rw [h0]; rfl
          clear h0
          go_wp2_with (fail)
          go_ret
          rw [HR0.out]
          exact ⟨rfl, F3⟩
        · have HR0 : Hid ((⟨T.toArray⟩ : ByteArray) = errB r2) := Lib.hid (by rw [HT1.out, HR.out, if_neg h0])
          have hz : (r2 != 0) = true := by simp [h0]
          clear h0
          go_wp2_with (fail)
          refine (HI.out _ F3).mono ?_
          rintro e w4 ⟨rfl, f4⟩
          go_wp2_with (fail)
          go_ret
          rw [HR0.out, ← HE.out]
          exact ⟨rfl, F3.trans f4⟩
    · have Br := F.obj B1 id
      have c0 : wr.cell? ⟨w.heap.size, 4, none⟩ = some (.string ⟨#[115, 101, 116]⟩) := obj_cell Br 4
      have c1 : wr.cell? ⟨w.heap.size, 5, none⟩ = some (.func (.func 48) #[] #[]) := obj_cell Br 5
      have e1 : wr.cell? ⟨b, off, none⟩ = some (.string wd) := ((F1.trans F).cell hbb id).trans e0
      clear e0
      go_wp2_with (refine wpList_sto (vs := [Value.string ⟨#[115, 101, 116]⟩, .func (.func 48) #[] #[]]) _ rfl (.tmp 4) (.tmp 12) 59 rfl (heap_alloc_new wr _) (by kernel_rfl) (by rfl) (by decide) rfl rfl ?_)
      intro w2 B2 f2 z2
      clear c0 c1
      have c0 : w2.cell? ⟨wr.heap.size, 0, none⟩ = some (.string ⟨#[115, 101, 116]⟩) := obj_cell B2 0
      have c1 : w2.cell? ⟨wr.heap.size, 1, none⟩ = some (.func (.func 48) #[] #[]) := obj_cell B2 1
      have hbr := Nat.lt_of_lt_of_le hbb (F1.trans F).size
      have e2 : w2.cell? ⟨b, off, none⟩ = some (.string wd) := (f2.cell (p := ⟨b, off, none⟩) (by simp; omega) (by show ¬ b = wr.heap.size; omega)).trans ((World.cell?_alloc_old _ _ _ (by show b ≠ _; omega)).trans e1)
      have F2 : Frm No w w2 := (((F1.trans F).al _).then f2 fun k hk h => by have := (F1.trans F).size; omega)
      have G2 : Frm No w1 w2 := ((F.al _).then f2 fun k hk h => by have := F.size; omega)
      clear e1 f2
      cases hq : wd.data.toList == nSet with
      | false =>
        have hb : (!([115, 101, 116] == wd.toList)) = true := cmd_ne hq
        have HT1 : Hid (T = tellN wd.data.toList ws 3) := Lib.hid (by rw [HT.out]; unfold tellN; rw [hq]; rfl)
        clear hq
        go_wp2_with (fail)
        go_quiet (fail)
        go_wp2_with (fail)
        go_roundg (4 - (2 + 1) + 1)
        case measure => omega
        case rel => exact ⟨3, by go_num, by omega, rfl, G2.trans (Frm.drewN No _ _), HT1⟩
      | true =>
        have hb : (!([115, 101, 116] == wd.toList)) = false := cmd_eq hq
        have HT1 : Hid (T = setT ws) := Lib.hid (by rw [HT.out]; unfold tellN; rw [hq]; rfl)
        obtain ⟨r1, r2, hr0, hr5, hr, HC⟩ := C2.out
        have HC := Lib.hid HC
        have HR := Lib.hid hr
        clear hq hr
        go_wp2_with (fail)
        go_quiet (fail)
        go_wp2_with (fail)
        refine wp_region_plan [([0, 1, 2, 3, 4, 5, 6, 7, 8, 9], [])] 36 (by kernel_rfl) (by kernel_rfl) (by simp) ?_
        intro N hN
        simp only [wpSegs, List.map_cons, List.map_nil, List.getD_cons_zero, List.getD_cons_succ]
        go_wp2_with (fail)
        refine (HC.out _ (F2.trans (Frm.drewN No _ _))).mono ?_
        rintro e w3 ⟨rfl, f3⟩
        have F3 := (F2.trans (Frm.drewN No _ _)).trans f3
        have HI := Lib.hid (fun W (f : Frm No w W) => itoa_ok r2 ⟨by omega, by omega⟩ (HTAB.out.frm f))
        have HE := Lib.hid (err_ba r2)
        have hil := itoa_lenN r2 hr0 hr5
        by_cases h0 : r2 = 0
        · have HR0 : Hid ((⟨T.toArray⟩ : ByteArray) = r1) := Lib.hid (by rw [HT1.out, HR.out, if_pos h0])
          have hz : (r2 != 0) = false := by rw [h0]; rfl
          clear h0
          go_wp2_with (fail)
          go_ret
          rw [HR0.out]
          exact ⟨rfl, F3⟩
        · have HR0 : Hid ((⟨T.toArray⟩ : ByteArray) = errB r2) := Lib.hid (by rw [HT1.out, HR.out, if_neg h0])
          have hz : (r2 != 0) = true := by simp [h0]
          clear h0
          go_wp2_with (fail)
          refine (HI.out _ F3).mono ?_
          rintro e w4 ⟨rfl, f4⟩
          go_wp2_with (fail)
          go_ret
          rw [HR0.out, ← HE.out]
          exact ⟨rfl, F3.trans f4⟩
    · have Br := F.obj B1 id
      have c0 : wr.cell? ⟨w.heap.size, 6, none⟩ = some (.string ⟨#[108, 105, 115, 116]⟩) := obj_cell Br 6
      have c1 : wr.cell? ⟨w.heap.size, 7, none⟩ = some (.func (.func 49) #[] #[]) := obj_cell Br 7
      have e1 : wr.cell? ⟨b, off, none⟩ = some (.string wd) := ((F1.trans F).cell hbb id).trans e0
      clear e0
      go_wp2_with (refine wpList_sto (vs := [Value.string ⟨#[108, 105, 115, 116]⟩, .func (.func 49) #[] #[]]) _ rfl (.tmp 4) (.tmp 12) 59 rfl (heap_alloc_new wr _) (by kernel_rfl) (by rfl) (by decide) rfl rfl ?_)
      intro w2 B2 f2 z2
      clear c0 c1
      have c0 : w2.cell? ⟨wr.heap.size, 0, none⟩ = some (.string ⟨#[108, 105, 115, 116]⟩) := obj_cell B2 0
      have c1 : w2.cell? ⟨wr.heap.size, 1, none⟩ = some (.func (.func 49) #[] #[]) := obj_cell B2 1
      have hbr := Nat.lt_of_lt_of_le hbb (F1.trans F).size
      have e2 : w2.cell? ⟨b, off, none⟩ = some (.string wd) := (f2.cell (p := ⟨b, off, none⟩) (by simp; omega) (by show ¬ b = wr.heap.size; omega)).trans ((World.cell?_alloc_old _ _ _ (by show b ≠ _; omega)).trans e1)
      have F2 : Frm No w w2 := (((F1.trans F).al _).then f2 fun k hk h => by have := (F1.trans F).size; omega)
      have G2 : Frm No w1 w2 := ((F.al _).then f2 fun k hk h => by have := F.size; omega)
      clear e1 f2
      cases hq : wd.data.toList == nList with
      | false =>
        have hb : (!([108, 105, 115, 116] == wd.toList)) = true := cmd_ne hq
        have HT1 : Hid (T = tellN wd.data.toList ws 4) := Lib.hid (by rw [HT.out]; unfold tellN; rw [hq]; rfl)
        clear hq
        go_wp2_with (fail)
        go_quiet (fail)
        go_wp2_with (fail)
        go_roundg (4 - (3 + 1) + 1)
        case measure => omega
        case rel => exact ⟨4, by go_num, by omega, rfl, G2.trans (Frm.drewN No _ _), HT1⟩
      | true =>
        have hb : (!([108, 105, 115, 116] == wd.toList)) = false := cmd_eq hq
        have HT1 : Hid (T = listT ws) := Lib.hid (by rw [HT.out]; unfold tellN; rw [hq]; rfl)
        obtain ⟨r1, r2, hr0, hr5, hr, HC⟩ := C3.out
        have HC := Lib.hid HC
        have HR := Lib.hid hr
        clear hq hr
        go_wp2_with (fail)
        go_quiet (fail)
        go_wp2_with (fail)
        refine wp_region_plan [([0, 1, 2, 3, 4, 5, 6, 7, 8, 9], [])] 36 (by kernel_rfl) (by kernel_rfl) (by simp) ?_
        intro N hN
        simp only [wpSegs, List.map_cons, List.map_nil, List.getD_cons_zero, List.getD_cons_succ]
        go_wp2_with (fail)
        refine (HC.out _ (F2.trans (Frm.drewN No _ _))).mono ?_
        rintro e w3 ⟨rfl, f3⟩
        have F3 := (F2.trans (Frm.drewN No _ _)).trans f3
        have HI := Lib.hid (fun W (f : Frm No w W) => itoa_ok r2 ⟨by omega, by omega⟩ (HTAB.out.frm f))
        have HE := Lib.hid (err_ba r2)
        have hil := itoa_lenN r2 hr0 hr5
        by_cases h0 : r2 = 0
        · have HR0 : Hid ((⟨T.toArray⟩ : ByteArray) = r1) := Lib.hid (by rw [HT1.out, HR.out, if_pos h0])
          have hz : (r2 != 0) = false := by rw [h0]; rfl
          clear h0
          go_wp2_with (fail)
          go_ret
          rw [HR0.out]
          exact ⟨rfl, F3⟩
        · have HR0 : Hid ((⟨T.toArray⟩ : ByteArray) = errB r2) := Lib.hid (by rw [HT1.out, HR.out, if_neg h0])
          have hz : (r2 != 0) = true := by simp [h0]
          clear h0
          go_wp2_with (fail)
          refine (HI.out _ F3).mono ?_
          rintro e w4 ⟨rfl, f4⟩
          go_wp2_with (fail)
          go_ret
          rw [HR0.out, ← HE.out]
          exact ⟨rfl, F3.trans f4⟩
    · have HT1 : Hid (T = errT 2500) := HT
      have HI := Lib.hid (fun W (f : Frm No w W) => itoa_ok 2500 ⟨by decide, by decide⟩ (HTAB.out.frm f))
      have HE := Lib.hid (err_ba 2500)
      have hil := itoa_lenN 2500 (by decide) (by decide)
      go_wp2_with (fail)
      refine (HI.out _ (F1.trans F)).mono ?_
      rintro e w4 ⟨rfl, f4⟩
      go_wp2_with (fail)
      go_ret
      rw [HT1.out]
      exact ⟨by rw [HE.out]; rfl, (F1.trans F).trans f4⟩
end Go.Proofs.YtgpdpalhkkjmiaaGreatDoor

/- strings.Builder, its row in a footprint of its own (Bld3 for a seat without documents). -/
namespace Go.Proofs.YtgpdpalhkkjmiaaGreatDoor
set_option linter.unusedVariables false
set_option linter.unusedSimpArgs false
open Go.RowKit Go.Lib Go.Tt
def BT (t : TypeId) : Prop := t = 41
theorem BT.lies {t : TypeId} (h : BT t) : liesAt Tryz.prog Tryz.prog.depth t (2 / Tryz.prog.cellsOf t) 0 41 1 = true := by
  cases h; kernel_rfl
theorem sizeBld : (Tryz.prog.info? 41).map (·.size) = some 2 := by kernel_rfl
/-- Block b, of type t, is a Builder that holds l, its row in F; p: what its first cell holds. -/
def FBAt (w : World) (t : TypeId) (F : Nat → Prop) (b : Nat) (p : Value) (l : List UInt8) : Prop :=
  ∃ a n c, w.heap[b]? = some (.cells #[p, .slice a n c] t (0, 0)) ∧ Ow w (fun k => F k ∧ k ≠ b) 5 eU8 (.slice a n c) l
def FB (w : World) (t : TypeId) (F : Nat → Prop) (b : Nat) (l : List UInt8) : Prop := FBAt w t F b (.pointer none) l ∨ FBAt w t F b (.pointer (some ⟨b, 0, none⟩)) l
theorem FBAt.frm {w w' : World} {t : TypeId} {F G : Nat → Prop} {b : Nat} {p : Value} {l : List UInt8} (h : FBAt w t F b p l) (f : Frm G w w') (h1 : ¬ G b) (h2 : ∀ k, F k → ¬ G k) : FBAt w' t F b p l := by
  obtain ⟨a, n, c, hb, o⟩ := h
  exact ⟨a, n, c, f.obj hb h1, o.frm f fun k hk => h2 k hk.1⟩
theorem FB.frm {w w' : World} {t : TypeId} {F G : Nat → Prop} {b : Nat} {l : List UInt8} (h : FB w t F b l) (f : Frm G w w') (h1 : ¬ G b) (h2 : ∀ k, F k → ¬ G k) : FB w' t F b l := h.elim (fun h => .inl (h.frm f h1 h2)) fun h => .inr (h.frm f h1 h2)
theorem FB.no {w w' : World} {t : TypeId} {F : Nat → Prop} {b : Nat} {l : List UInt8} (h : FB w t F b l) (f : Frm No w w') : FB w' t F b l := h.frm f id fun _ _ h => h
theorem FB.mono {w : World} {t : TypeId} {F G : Nat → Prop} {b : Nat} {l : List UInt8} (h : FB w t F b l) (hs : ∀ k, k < w.heap.size → F k → G k) : FB w t G b l := by
  rcases h with ⟨a, n, c, hb, o⟩ | ⟨a, n, c, hb, o⟩
  · exact .inl ⟨a, n, c, hb, o.mono fun k hk h => ⟨hs k hk h.1, h.2⟩⟩
  · exact .inr ⟨a, n, c, hb, o.mono fun k hk h => ⟨hs k hk h.1, h.2⟩⟩
theorem FB.new {w : World} {t : TypeId} {b : Nat} (F : Nat → Prop) (hb : w.heap[b]? = some (.cells #[.pointer none, .slice none 0 0] t (0, 0))) : FB w t F b [] := .inl ⟨none, 0, 0, hb, Ow.nil _ _ _ _ _⟩
theorem FB.lt {w : World} {t : TypeId} {F : Nat → Prop} {b : Nat} {l : List UInt8} (h : FB w t F b l) : b < w.heap.size := by
  rcases h with ⟨a, n, c, hb, -⟩ | ⟨a, n, c, hb, -⟩ <;> exact lt_of_block hb
/-- It holds what was made from M on. -/
theorem FB.bld {w : World} {M : Nat} {F : Nat → Prop} {b : Nat} {l : List UInt8} (h : FB w 41 F b l) (hb : M ≤ b) (hF : ∀ k, F k → M ≤ k) : Bld w M b l := by
  rcases h with ⟨a, n, c, hbb, o⟩ | ⟨a, n, c, hbb, o⟩
  · exact .inl ⟨hb, a, n, c, hbb, o.mono fun k _ h => ⟨hF k h.1, h.2⟩⟩
  · exact .inr ⟨hb, a, n, c, hbb, o.mono fun k _ h => ⟨hF k h.1, h.2⟩⟩
set_option maxRecDepth 100000 in
theorem fcopyCheck_ok {w : World} {t : TypeId} (ht : BT t) {F : Nat → Prop} {b : Nat} {l : List UInt8} (h : FB w t F b l) :
    Calls Tryz.prog 26 #[.pointer (some ⟨b, 0, none⟩)] w fun e w' => e = .returned (.tuple #[]) ∧ FBAt w' t F b (.pointer (some ⟨b, 0, none⟩)) l ∧ Frm (fun k => k = b) w w' := by
  rcases h with h | h
  · obtain ⟨a, n, c, hb, o⟩ := h
    have c0 : w.cell? ⟨b, 0, none⟩ = some (.pointer none) := obj_cell hb 0
    have z0 := obj_frz hb
    have hsh : w.shape? b = some (t, 2) := by simp [World.shape?, hb]
    obtain ⟨j, hj, hjs⟩ := Option.map_eq_some_iff.1 sizeBld
    go_enter Tryz.func26, Tryz.ntmps26
    go_wp2
    rw [Lib.run_to_unsafe w ⟨b, 0, none⟩ Tryz.underlying39 Tryz.underlying94 hj (by rw [hjs]; decide) hsh (Nat.zero_lt_succ 1)]
    simp only [Result.andThen]
    rw [Oper.upon_value]
    go_wp2
    rw [run_callFunc_extern Tryz.func45 (by kernel_rfl) (by kernel_rfl) (by kernel_rfl) (e := Extern.AbiNoEscape.same) (by kernel_rfl)]
    rw [Lib.run_noEscape]
    simp only [Result.andThen]
    rw [Oper.upon_value]
    go_wp2
    rw [Lib.run_from_unsafe w ⟨b, 0, none⟩ Tryz.underlying94 Tryz.underlying39 hj hsh ht.lies]
    simp only [Result.andThen]
    rw [Oper.upon_value]
    go_wp2
    go_end0
    refine ⟨rfl, ⟨a, n, c, ?_, ?_⟩, Frm.setCell w ⟨b, 0, none⟩ _ rfl⟩
    · have := obj_setCell (i := 0) hb (.pointer (some ⟨b, 0, none⟩))
      simpa using this
    · exact o.st (b := b) (fun h => h.2 rfl) 0 _
  · obtain ⟨a, n, c, hb, o⟩ := h
    have c0 : w.cell? ⟨b, 0, none⟩ = some (.pointer (some ⟨b, 0, none⟩)) := obj_cell hb 0
    obtain ⟨j, hj, -⟩ := Option.map_eq_some_iff.1 sizeBld
    go_enter Tryz.func26, Tryz.ntmps26
    go_wp2
    rw [Lib.run_neq_ptr_same w _ Tryz.underlying39 hj]
    go_wp2
    go_end0
    exact ⟨rfl, ⟨a, n, c, hb, o⟩, Frm.refl _ _⟩
set_option maxRecDepth 100000 in
theorem fwriteString_ok {w : World} {t : TypeId} (ht : BT t) {F : Nat → Prop} {b : Nat} {l : List UInt8} (h : FB w t F b l) (s : ByteArray) (hl : l.length + s.size ≤ 140737488355328) :
    Calls Tryz.prog 18 #[.pointer (some ⟨b, 0, none⟩), .string s] w fun e w' => e = .returned (.tuple #[.int .i64 s.size, .nilIface]) ∧ FB w' t (fun k => F k ∨ (w.heap.size ≤ k ∧ k < w'.heap.size)) b (l ++ s.data.toList) ∧ Frm (fun k => k = b ∨ F k) w w' := by
  have hcc := fcopyCheck_ok ht h
  clear h
  go_enter Tryz.func18, Tryz.ntmps18
  go_wp2_with (fail)
  refine hcc.mono ?_
  rintro e w1 ⟨rfl, ⟨a, n, c, hb, o⟩, f1⟩
  clear hcc
  have c1 : w1.cell? ⟨b, 1, none⟩ = some (.slice a n c) := obj_cell hb 1
  have hnl := o.cap.1
  have HN := Lib.hid hnl
  clear hnl
  have nb := lt_of_block hb
  have z1 := f1.size
  have hsr : Src Tryz.prog eU8.k 9 (.string s) s.size (eU8.flat s.data.toList) w1 := by
    rw [eU8_flat]
    exact Src.ofString w1 Tryz.underlying9 s
  have hsl : s.size = s.data.toList.length := by rw [Array.length_toList]; rfl
  have HSL := Lib.hid hsl
  clear hsl
  go_wp2_with (at_builtin; refine wpList_ap _ rfl (.tmp 12) (.tmp 13) 27 9 rfl 5 _ 1 Tryz.underlying27 i_u8e rfl o hsr HSL.out rfl rfl ?c1 ?c2 ?_)
  case c1 => unfold maxLen; omega
  case c2 => omega
  intro a' c' w2 o2 f2
  have hb2 := f2.obj hb (fun h => h.2 rfl)
  have d0 : w2.cell? ⟨b, 0, none⟩ = some (.pointer (some ⟨b, 0, none⟩)) := obj_cell hb2 0
  have d1 : w2.cell? ⟨b, 1, none⟩ = some (.slice a n c) := obj_cell hb2 1
  have z2 := obj_frz hb2
  have nb2 := lt_of_block hb2
  have s2 := f2.size
  rw [← HN.out] at o2
  go_wp2
  go_ret2
  refine ⟨rfl, .inr ⟨a', n + s.size, c', ?_, ?_⟩, ?_⟩
  · have := obj_setCell (i := 1) hb2 (.slice a' (n + s.size) c')
    rw [HN.out] at this ⊢
    simpa using this
  · rw [HN.out] at o2 ⊢
    refine (o2.mono (G := fun k => (F k ∨ (w.heap.size ≤ k ∧ k < (w2.setCell ⟨b, 1, none⟩ (.slice a' (l.length + s.size) c')).heap.size)) ∧ k ≠ b) fun k hk h => ?_).st (b := b) (fun h => h.2 rfl) 1 _
    rcases h with h | h
    · exact ⟨.inl h.1, h.2⟩
    · have := h.1
      exact ⟨.inr ⟨by omega, by simpa using hk⟩, by omega⟩
  · exact ((f1.mono fun k _ h => .inl h).trans (f2.mono fun k _ h => .inr h.1)).sc (.inl rfl) _ _
end Go.Proofs.YtgpdpalhkkjmiaaGreatDoor

/- The console: a script parted into lines and words. -/
namespace Go.Proofs.YtgpdpalhkkjmiaaGreatDoor
set_option linter.unusedVariables false
set_option linter.unusedSimpArgs false
open Go.RowKit Go.Lib Go.Tt Go.Shelf
set_option maxRecDepth 100000 in
theorem blank_ok (r : Nat) (w : World) : Calls Tryz.prog 17 #[.int .i32 r] w fun e w' => e = .returned (.bool (wsR r)) ∧ w = w' := by
  by_cases h1 : r = 32
  · subst h1
    go_enter Tryz.func17, Tryz.ntmps17
    go_wp2_with (fail)
    go_ret
    exact ⟨rfl, rfl⟩
  by_cases h2 : r = 9
  · subst h2
    go_enter Tryz.func17, Tryz.ntmps17
    go_wp2_with (fail)
    go_ret
    exact ⟨rfl, rfl⟩
  have e1 : ((r : Int) == 32) = false := by simp; omega
  have e2 : ((r : Int) == 9) = false := by simp; omega
  have hr : Hid (wsR r = false) := Lib.hid (by unfold wsR; simp; omega)
  clear h1 h2
  go_enter Tryz.func17, Tryz.ntmps17
  go_wp2_with (fail)
  go_ret
  exact ⟨by rw [hr.out]; rfl, rfl⟩
theorem blank_pred (w : World) : PredAtRunes Tryz.prog 17 #[] wsR w := fun W x _ _ => (blank_ok x W).mono fun e w' ⟨he, hw⟩ => ⟨he, 0, by rw [← hw]; rfl⟩
theorem eStr_flat : ∀ l : List ByteArray, eStr.flat l = l.map Value.string
  | [] => rfl
  | x :: t => by rw [eStr.flat_cons, eStr_flat t]; rfl
/-- A line's words. -/
theorem fields_ok (s : ByteArray) (hs : s.size ≤ 4294967296) (w : World) : Calls Tryz.prog 16 #[.string s, .func (.func 17) #[] #[]] w fun e w' => ∃ a n c, e = .returned (.slice a n c) ∧ Ow w' (Nw No w w') 9 eStr (.slice a n c) (wordsB s.data.toList) ∧ Frm No w w' := by
  refine (Tryz.strings_FieldsFunc_runes 17 #[] (enters_of Tryz.func17 (by kernel_rfl) rfl) wsR s w hs (blank_pred w)).mono ?_
  rintro e w' ⟨A, rfl, hA, ho, hb⟩
  have hq : Lib.goFieldsP wsR s = wordsB s.data.toList := by
    unfold wordsB
    rw [← fields_words, List.map_map]
    conv => lhs; rw [← List.map_id (goFieldsP wsR s)]
    exact List.map_congr_left fun x _ => by simp [Function.comp]
  rw [hq] at ho ⊢
  refine ⟨_, _, _, rfl, ?_, (Frm.of_below hb).mono fun k hk hge => absurd hge (by omega)⟩
  refine .inr ⟨?_, fun g hg => ?_⟩
  · rw [eStr_flat]; exact own_base ho (Nat.zero_le _)
  · exact .inr ⟨by obtain rfl := Option.some.inj hg; exact hA, own_lt ho hg⟩
theorem i_strS : (Tryz.prog.info? (Tryz.lays221_ren.t 9)).map (fun i => (i.zero, i.size, i.bytes)) = some (some (.string ByteArray.empty), 1, 16) := by kernel_rfl
def lfB : ByteArray := ⟨#[10]⟩
theorem split0_ok (s : ByteArray) (hs : s.size ≤ 4294967280) (w : World) : Calls Tryz.prog 25 #[.string s, .string ⟨#[10]⟩, .int .i64 0, .int .i64 (-1)] w fun e w' => e = .returned (.slice (some ⟨w.heap.size, 0, none⟩) (Lib.countB s ⟨#[10]⟩ + 1) (Lib.countB s ⟨#[10]⟩ + 1)) ∧ w' = w.alloc (.cells ((Lib.splitB ⟨#[10]⟩ 0 (Lib.countB s ⟨#[10]⟩) s).map Value.string).toArray 9) := by
  have h1 : 1 ≤ (⟨#[10]⟩ : ByteArray).size := by decide
  have hle := Lib.countB_le ⟨#[10]⟩ h1 s.size s (Nat.le_refl _)
  have hlen := Lib.splitB_all ⟨#[10]⟩ h1 0 _ s rfl
  have c := Any.strings_genSplit_core Tryz.lays221 i_strS s ⟨#[10]⟩ 0 (-1) (Lib.countB s ⟨#[10]⟩ + 1) w (by omega) h1 (Nat.zero_le _)
    (fun x c hx => (Tryz.strings_Index_one x 10 _).mono fun e w' ⟨he, hw⟩ => ⟨by rw [he]; show _ = Ending.returned (Value.int .i64 (Lib.index x.data.toList [10])); rw [Lib.index_one], hw⟩)
    ((Tryz.strings_Count_one s 10 w).mono fun e w' ⟨he, hw⟩ => ⟨by rw [he]; show _ = Ending.returned (Value.int .i64 ((Lib.count s.data.toList [10] : Nat) : Int)); rw [Lib.count_one]; rfl, hw⟩)
    (by decide) (by decide) (by rw [if_pos (by decide)]; omega)
  rw [Nat.add_sub_cancel, hlen] at c
  have e2 : Lib.cellsOf (Lib.splitB ⟨#[10]⟩ 0 (Lib.countB s ⟨#[10]⟩) s) (Lib.countB s ⟨#[10]⟩ + 1) = ((Lib.splitB ⟨#[10]⟩ 0 (Lib.countB s ⟨#[10]⟩) s).map Value.string).toArray := by rw [← hlen]; exact Lib.cellsOf_full _
  rw [e2] at c
  exact c
/-- A script's lines, as texts. -/
def linesB (l : List UInt8) : List ByteArray := (linesL l).map fun w => ⟨w.toArray⟩
set_option maxRecDepth 100000 in
theorem split_ok (s : ByteArray) (hs : s.size ≤ 4294967280) (w : World) : Calls Tryz.prog 15 #[.string s, .string ⟨#[10]⟩] w fun e w' => ∃ n, e = .returned (.slice (some ⟨w.heap.size, 0, none⟩) n n) ∧ n = (linesB s.data.toList).length ∧ w' = w.alloc (.cells ((linesB s.data.toList).map Value.string).toArray 9) := by
  have hq : Lib.splitB ⟨#[10]⟩ 0 (Lib.countB s ⟨#[10]⟩) s = linesB s.data.toList := by
    unfold linesB
    rw [← splitB_lines, List.map_map]
    conv => lhs; rw [← List.map_id (splitB ⟨#[10]⟩ 0 (Lib.countB s ⟨#[10]⟩) s)]
    exact List.map_congr_left fun x _ => by simp [Function.comp]
  have hlen := Lib.splitB_all ⟨#[10]⟩ (by decide) 0 _ s rfl
  have c := split0_ok s hs w
  rw [hq] at c hlen
  obtain ⟨n, hn⟩ : ∃ n, Hid (n = Lib.countB s ⟨#[10]⟩ + 1) := ⟨_, Lib.hid rfl⟩
  rw [← hn.out] at c hlen
  have C := Lib.hid c
  have HL := Lib.hid hlen.symm
  clear c hlen hq
  go_enter Tryz.func15, Tryz.ntmps15
  go_wp2_with (fail)
  refine C.out.mono ?_
  rintro e w' ⟨rfl, rfl⟩
  go_wp2_with (fail)
  go_ret
  exact ⟨n, rfl, HL.out, rfl⟩
end Go.Proofs.YtgpdpalhkkjmiaaGreatDoor

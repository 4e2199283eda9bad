/- Merged: Rep6 PrB Prn5. -/
import Derived.Test.YthaegncocdddfaaGreatDoorK03
import Derived.Test.YthaegncocdddfaaGreatDoorK14
import Derived.Test.YthaegncocdddfaaGreatDoorK17
import Derived.Test.YthaegncocdddfaaGreatDoorK20
import Derived.Test.YthaegncocdddfaaGreatDoorK22
import Derived.Test.YthaegncocdddfaaGreatDoorK23
/- package strings' Replacer, walked: Replace; doc.text. -/
namespace Go.Proofs.YthaegncocdddfaaGreatDoor
set_option linter.unusedVariables false
set_option linter.unusedSimpArgs false
set_option linter.unusedVariables false
set_option linter.unusedSimpArgs false
open Go.RowKit Go.Lib Go.Tt
set_option maxRecDepth 100000 in
theorem replace_ok {w : World} {b : Nat} {r : Value} {a : Option Addr} {c : Nat} (hb : w.heap[b]? = some (.cells (rcs 0 0 r (.slice a 6 c)) 178 (0, 0))) (hr : RdS w eStr (.slice a 6 c) rp6) (hd : ∀ g, sblk (.slice a 6 c) = some g → g ≠ b) (s : ByteArray) (hs : ((byL s).flatMap dqc).length ≤ 140737488355328) :
    Calls Tryz.prog 116 #[.pointer (some ⟨b, 0, none⟩), .string s] w fun e w' => e = .returned (.string ⟨((byL s).flatMap dqc).toArray⟩) ∧ Frm (fun k => k = b) w w' := by
  have HD := do_ok hb hr hd
  clear hb hr hd
  go_enter Tryz.func116, Tryz.ntmps116
  go_wp2_with (fail)
  refine HD.mono ?_
  rintro e w1 ⟨rfl, rb, B1, P1, f1⟩
  have d3 : w1.cell? ⟨b, 3, none⟩ = some (.iface 215 (.pointer (some ⟨rb, 0, none⟩))) := obj_cell B1 3
  have HB := bsr_ok P1.f s hs
  clear HD B1 P1
  go_wp2_with (fail)
  refine HB.mono ?_
  rintro e w2 ⟨rfl, f2⟩
  go_wp2_with (fail)
  go_ret
  exact ⟨rfl, f1.trans (f2.mono fun k _ h => h.elim)⟩
theorem rd6 (w : World) : RdS (w.alloc (.cells #[.string ⟨#[34]⟩, .string ⟨#[92, 34]⟩, .string ⟨#[92]⟩, .string ⟨#[92, 92]⟩, .string ⟨#[10]⟩, .string ⟨#[92, 110]⟩] 9)) eStr (.slice (some ⟨w.heap.size, 0, none⟩) 6 6) rp6 := by
  refine ⟨_, _, rfl, Nat.le_refl _, by decide, fun h => (by cases h), fun _ => ⟨_, _, rfl, fun m u hm => ?_⟩⟩
  rw [obj_cell (heap_alloc_new w _), Nat.zero_add, ← Array.getElem?_toList]
  exact hm
set_option maxRecDepth 100000 in
/-- A text, told. -/
theorem dtext_ok (s : ByteArray) (hs : (dqL (byL s)).length ≤ 140737488355328) (w : World) :
    Calls Tryz.prog 110 #[.string s] w fun e w' => e = .returned (.string ⟨(dqL (byL s)).toArray⟩) ∧ Frm No w w' := by
  have hs' : ((byL s).flatMap dqc).length ≤ 140737488355328 - 2 := by
    unfold dqL at hs
    simp only [List.length_cons, List.length_append, List.length_nil] at hs
    omega
  go_enter Tryz.func110, Tryz.ntmps110
  go_wp2_with (fail)
  have HN := newRep_ok (rd6 w)
  refine HN.mono ?_
  rintro e w1 ⟨b, a, c, rfl, hb1, B1, O1, f1⟩
  have hd : ∀ g, sblk (.slice a 6 c) = some g → g ≠ b := fun g hg => (O1.blk hg).2
  have HR := replace_ok B1 O1.rd hd s (by omega)
  clear HN O1 B1
  go_wp2_with (fail)
  refine HR.mono ?_
  rintro e w2 ⟨rfl, f2⟩
  clear HR
  have F2 : Frm No w w2 := ((Frm.refl No w).al _).trans f1 |>.then f2 fun k hk h => by
    rw [World.size_alloc] at hb1
    omega
  clear f1 f2 hd hb1
  obtain ⟨q, hq⟩ : ∃ q : ByteArray, q = ⟨((byL s).flatMap dqc).toArray⟩ := ⟨_, rfl⟩
  have hsz : q.size ≤ 140737488355326 := by
    rw [hq]
    show ((byL s).flatMap dqc).toArray.size ≤ _
    rw [List.size_toArray]
    omega
  rw [← hq]
  have hlq : q.data.toList = (byL s).flatMap dqc := by rw [hq]
  have HQ := Lib.hid hlq
  clear hq hlq hs hs'
  go_wp2_with (fail)
  go_ret
  refine ⟨?_, F2⟩
  have e : (⟨#[34]⟩ : ByteArray) ++ q ++ (⟨#[34]⟩ : ByteArray) = ⟨(dqL (byL s)).toArray⟩ := by
    apply ByteArray.ext
    apply Array.toList_inj.1
    rw [ByteArray.data_append, ByteArray.data_append, Array.toList_append, Array.toList_append, HQ.out]
    rfl
  rw [← e]
  rfl
end Go.Proofs.YthaegncocdddfaaGreatDoor

/- What is printed, in parts; ints that are ints. No program in sight. -/
namespace Go.Tt
set_option linter.unusedVariables false
set_option linter.unusedSimpArgs false
def I64 (n : Int) : Prop := -9223372036854775808 ≤ n ∧ n ≤ 9223372036854775807
mutual
def SlI : Sl → Prop
  | .mk _ _ _ args ifs sels => (∀ a ∈ args, I64 a.val.int) ∧ (∀ i ∈ ifs, I64 i.val.int) ∧ SsI sels
def SsI : List Sl → Prop
  | [] => True
  | s :: ss => SlI s ∧ SsI ss
end
theorem SsI.at : ∀ {ss : List Sl}, SsI ss → ∀ (i : Nat) (h : i < ss.length), SlI ss[i]
  | s :: ss, h, 0, _ => by unfold SsI at h; exact h.1
  | s :: ss, h, i + 1, hi => by unfold SsI at h; exact SsI.at h.2 i (by simpa using hi)
theorem nS_le_at : ∀ {ss : List Sl} (i : Nat) (h : i < ss.length), nS ss[i] ≤ nSs ss
  | s :: ss, 0, _ => by show nS s ≤ nS s + nSs ss; omega
  | s :: ss, i + 1, hi => by have := nS_le_at (ss := ss) i (by simpa using hi); show nS (ss[i]'(by simpa using hi)) ≤ nS s + nSs ss; omega
theorem nS_pos : ∀ (s : Sl), 1 ≤ nS s
  | .mk _ _ _ _ _ _ => by unfold nS; omega
theorem prSs_app : ∀ (a b : List Sl), prSs (a ++ b) = prSs a ++ prSs b
  | [], b => rfl
  | s :: a, b => by
    show prS s ++ prSs (a ++ b) = (prS s ++ prSs a) ++ prSs b
    rw [prSs_app a b, List.append_assoc]
theorem prSs_take {ss : List Sl} {i : Nat} (h : i < ss.length) : prSs (ss.take (i + 1)) = prSs (ss.take i) ++ prS ss[i] := by
  rw [List.take_succ_eq_append_getElem h, prSs_app]
  show prSs (ss.take i) ++ (prS ss[i] ++ []) = _
  rw [List.append_nil]
theorem prSs_le {ss : List Sl} (i : Nat) : (prSs (ss.take i)).length ≤ (prSs ss).length := by
  have : prSs ss = prSs (ss.take i) ++ prSs (ss.drop i) := by rw [← prSs_app, List.take_append_drop]
  rw [this, List.length_append]
  omega
theorem fm_take {α : Type} {f : α → List UInt8} {l : List α} {i : Nat} (h : i < l.length) : (l.take (i + 1)).flatMap f = (l.take i).flatMap f ++ f l[i] := by
  rw [List.take_succ_eq_append_getElem h, List.flatMap_append]
  simp
theorem fm_le {α : Type} {f : α → List UInt8} {l : List α} (i : Nat) : ((l.take i).flatMap f).length ≤ (l.flatMap f).length := by
  have : l.flatMap f = (l.take i).flatMap f ++ (l.drop i).flatMap f := by rw [← List.flatMap_append, List.take_append_drop]
  rw [this, List.length_append]
  omega
/-- A list in brackets, as far as it is told. -/
def pBr {α : Type} (f : α → List UInt8) (l : List α) (i : Nat) : List UInt8 := if i = 0 then [] else 40 :: 32 :: ((l.take i).flatMap f ++ (if i = l.length then [41, 32] else []))
theorem pBr_zero {α : Type} (f : α → List UInt8) (l : List α) : pBr f l 0 = [] := rfl
theorem pBr_all {α : Type} (f : α → List UInt8) (l : List α) : pBr f l l.length = if l.isEmpty then [] else 40 :: 32 :: (l.flatMap f ++ [41, 32]) := by
  unfold pBr
  cases l with
  | nil => rfl
  | cons x l => simp
theorem pBr_step {α : Type} {f : α → List UInt8} {l : List α} {i : Nat} (h : i < l.length) : pBr f l (i + 1) = pBr f l i ++ (if i = 0 then [40, 32] else []) ++ f l[i] ++ (if i + 1 = l.length then [41, 32] else []) := by
  unfold pBr
  rw [if_neg (by omega), fm_take h]
  by_cases h0 : i = 0
  · subst h0
    simp
  · rw [if_neg h0, if_neg h0, if_neg (show ¬ i = l.length from by omega)]
    simp
theorem pBr_le {α : Type} {f : α → List UInt8} {l : List α} (i : Nat) (h : i ≤ l.length) : (pBr f l i).length ≤ (pBr f l l.length).length := by
  by_cases h1 : i = l.length
  · rw [h1]; exact Nat.le_refl _
  · unfold pBr
    by_cases h0 : i = 0
    · rw [if_pos h0]; exact Nat.zero_le _
    · have h2 : ¬ l.length = 0 := by omega
      have := fm_le (f := f) (l := l) i
      simp only [if_neg h0, if_neg h1, if_neg h2, if_true, List.take_length, List.length_cons, List.length_append, List.length_nil]
      omega
theorem prAs_pBr (l : List Ar) : prAs l = pBr prA l l.length := (pBr_all prA l).symm
theorem prDs_pBr (l : List Dc) : prDs l = pBr prD l l.length := (pBr_all prD l).symm
end Go.Tt

/- The printer, walked: value. -/
namespace Go.Proofs.YthaegncocdddfaaGreatDoor
set_option linter.unusedVariables false
set_option linter.unusedSimpArgs false
open Go.RowKit Go.Lib Go.Tt Go.Shelf
/-- The table's block lies below M. -/
def TabB (M : Nat) (w : World) : Prop := Tab w ∧ ∀ g, Tryz.prog.globalNamed "internal/strconv.uint64pow10" = some g → g < M
def Ge (M : Nat) : Nat → Prop := fun k => M ≤ k
def Lo (M : Nat) : Nat → Prop := fun k => k < M
theorem TabB.frm {M : Nat} {w w' : World} (h : TabB M w) (f : Frm (Ge M) w w') : TabB M w' := by
  refine ⟨?_, h.2⟩
  obtain ⟨h1, h2⟩ := h
  unfold Tab Lib.TabIs World.var? at *
  cases hg : Tryz.prog.globalNamed "internal/strconv.uint64pow10" with
  | none => rw [hg] at h1; cases h1
  | some g =>
    rw [hg] at h1
    simp only [Option.bind_some] at h1 ⊢
    split at h1
    · next hc => rw [f.obj hc (fun hk => by have := h2 g hg; unfold Ge at hk; omega)]; exact h1
    · cases h1
theorem TabB.no {M : Nat} {w w' : World} (h : TabB M w) (f : Frm No w w') : TabB M w' := h.frm (f.mono fun _ _ h => h.elim)
theorem Tab.b {w : World} (h : Tab w) : TabB w.heap.size w := by
  refine ⟨h, fun g hg => ?_⟩
  unfold Tab Lib.TabIs World.var? at h
  rw [hg] at h
  simp only [Option.bind_some] at h
  split at h
  · next hc => exact lt_of_block hc
  · cases h
/-- The printer in block pb, made from M on, holds l. -/
def PP (M : Nat) (w : World) (pb : Nat) (l : List UInt8) : Prop := FB w 90 (Bt M w.heap.size) pb l ∧ M ≤ pb ∧ TabB M w
theorem PP.no {M : Nat} {w w' : World} {pb : Nat} {l : List UInt8} (h : PP M w pb l) (f : Frm No w w') : PP M w' pb l :=
  ⟨(h.1.no f).mono fun k _ hk => ⟨hk.1, Nat.lt_of_lt_of_le hk.2 f.size⟩, h.2.1, h.2.2.no f⟩
theorem PP.lt {M : Nat} {w : World} {pb : Nat} {l : List UInt8} (h : PP M w pb l) : pb < w.heap.size := h.1.lt
/-- add, its words in a fresh row. -/
theorem padd2 {M : Nat} {w : World} {pb : Nat} {l : List UInt8} (h : PP M w pb l) (ss : List ByteArray) {n : Nat} (hn : ss.length = n) (cs : Array Value) (hc : cs.toList = eStr.flat ss) (hlen : l.length + (spS ss).length ≤ 140737488355328) :
    Calls Tryz.prog 57 #[.pointer (some ⟨pb, 0, none⟩), .slice (some ⟨w.heap.size, 0, none⟩) n n] (w.alloc (.cells cs 9)) fun e w' => e = .returned (.tuple #[]) ∧ PP M w' pb (l ++ spS ss) ∧ Frm (Ge M) w w' := by
  subst hn
  have hne : Frm No w (w.alloc (.cells cs 9)) := (Frm.refl No w).al _
  have B : FB (w.alloc (.cells cs 9)) 90 (Bt M w.heap.size) pb l := h.1.no hne
  have hlt := h.lt
  have hM := h.2.1
  have hn9 : ss.length ≤ maxLen := by
    have : ss.length ≤ (spS ss).length := by
      clear hc hlen
      induction ss with
      | nil => exact Nat.zero_le _
      | cons x xs ih =>
        have e : (spS (x :: xs)).length = (sp (byL x)).length + (spS xs).length := by unfold spS; rw [List.flatMap_cons, List.length_append]
        have e2 : (sp (byL x)).length = (byL x).length + 1 := by unfold sp; rw [List.length_append]; rfl
        rw [e, e2, List.length_cons]
        omega
    unfold maxLen
    omega
  have R : RdS (w.alloc (.cells cs 9)) eStr (.slice (some ⟨w.heap.size, 0, none⟩) ss.length ss.length) ss := by
    refine ⟨_, _, rfl, Nat.le_refl _, hn9, fun h => (by cases h), fun _ => ⟨_, _, rfl, fun m u hm => ?_⟩⟩
    rw [obj_cell (heap_alloc_new w _), Nat.zero_add, ← Array.getElem?_toList, hc]
    exact hm
  refine (padd_ok B R ?_ hlen ?_).mono ?_
  · intro g hg
    have hg' : g = w.heap.size := by
      cases hs : ss.length with
      | zero => rw [hs] at hg; cases hg
      | succ m => rw [hs] at hg; exact (Option.some.inj hg).symm
    rw [hg']
    exact ⟨by omega, fun hb => by have := hb.2; omega⟩
  · intro k hk
    have := hk.2
    rw [World.size_alloc]
    omega
  · rintro e w' ⟨he, b, f⟩
    have sz := f.size
    rw [World.size_alloc] at sz
    have F' : Frm (Ge M) w w' := (hne.mono (G := Ge M) fun _ _ h => h.elim).then f fun k _ hk => by
      rcases hk with hk | hk
      · rw [hk]; exact hM
      · exact hk.1
    refine ⟨he, ⟨b.mono fun k hk hx => ?_, hM, h.2.2.frm F'⟩, F'⟩
    rcases hx with hx | hx
    · exact ⟨hx.1, hk⟩
    · have h1 := hx.1
      rw [World.size_alloc] at h1
      exact ⟨by omega, hk⟩
theorem spS_one (x : ByteArray) : spS [x] = sp (byL x) := by simp [spS]
/-- A value's cells. -/
structure VlAt (w : World) (M : Nat) (b o : Nat) (v : Vl) : Prop where
  k : w.cell? ⟨b, o, none⟩ = some (.int .i64 v.kind)
  i : w.cell? ⟨b, o + 1, none⟩ = some (.int .i64 v.int)
  t : w.cell? ⟨b, o + 2, none⟩ = some (.string v.text)
  lt : b < M
  lw : b < w.heap.size
set_option maxRecDepth 100000 in
theorem pvalue_ok {M : Nat} {w : World} {pb : Nat} {l : List UInt8} (h : PP M w pb l) {b o : Nat} {v : Vl} (hv : VlAt w M b o v) (hi : I64 v.int) (hlen : l.length + (prV v).length ≤ 140737488355328) :
    Calls Tryz.prog 96 #[.pointer (some ⟨pb, 0, none⟩), .pointer (some ⟨b, o, none⟩)] w fun e w' => e = .returned (.tuple #[]) ∧ PP M w' pb (l ++ prV v) ∧ Frm (Ge M) w w' := by
  obtain ⟨c0, c1, c2, hb, hbw⟩ := hv
  have hlt := h.lt
  obtain ⟨vk, vi, vt⟩ := v
  simp only at c0 c1 c2 hi
  by_cases k0 : vk = 0
  · subst k0
    have e : prV ⟨0, vi, vt⟩ = spS [⟨(Lib.itoa vi).toArray⟩] := by rw [spS_one]; simp [prV, byL]
    rw [e] at hlen ⊢
    have HI := itoa_ok vi hi h.2.2.1
    have H := Lib.hid h
    have HE := Lib.hid hlen
    clear h hlen e
    go_enter Tryz.func96, Tryz.ntmps96
    go_wp2_with (fail)
    refine HI.mono ?_
    rintro e w1 ⟨rfl, f1⟩
    clear HI
    have HA := padd2 (H.out.no f1) [⟨(Lib.itoa vi).toArray⟩] rfl #[.string ⟨(Lib.itoa vi).toArray⟩] rfl HE.out
    go_wp2_with (fail)
    refine HA.mono ?_
    rintro e w2 ⟨rfl, p2, f2⟩
    go_wp2_with (fail)
    go_end0
    exact ⟨rfl, p2, (f1.mono fun _ _ h => h.elim).trans f2⟩
  by_cases k1 : vk = 1
  · subst k1
    have e : prV ⟨1, vi, vt⟩ = spS [⟨(dqL (byL vt)).toArray⟩] := by rw [spS_one]; simp [prV, byL]
    rw [e] at hlen ⊢
    have HI := dtext_ok vt (by rw [spS_one] at hlen; unfold sp at hlen; rw [List.length_append] at hlen; simp only [byL] at hlen ⊢; omega) w
    have H := Lib.hid h
    have HE := Lib.hid hlen
    clear h hlen e
    go_enter Tryz.func96, Tryz.ntmps96
    go_wp2_with (fail)
    refine HI.mono ?_
    rintro e w1 ⟨rfl, f1⟩
    clear HI
    have HA := padd2 (H.out.no f1) [⟨(dqL (byL vt)).toArray⟩] rfl #[.string ⟨(dqL (byL vt)).toArray⟩] rfl HE.out
    go_wp2_with (fail)
    refine HA.mono ?_
    rintro e w2 ⟨rfl, p2, f2⟩
    go_wp2_with (fail)
    go_end0
    exact ⟨rfl, p2, (f1.mono fun _ _ h => h.elim).trans f2⟩
  by_cases k2 : vk = 2
  · subst k2
    obtain ⟨x, hx⟩ : ∃ x : ByteArray, x = (if (vi == 1) then ⟨#[116, 114, 117, 101]⟩ else ⟨#[102, 97, 108, 115, 101]⟩) := ⟨_, rfl⟩
    have e : prV ⟨2, vi, vt⟩ = spS [x] := by
      rw [spS_one, hx]
      by_cases h1 : vi = 1 <;> simp [prV, h1, byL, sp]
    rw [e] at hlen ⊢
    have HI := fmtBool_ok (vi == 1) w
    rw [← hx] at HI
    have H := Lib.hid h
    have HE := Lib.hid hlen
    clear h hlen e hx
    go_enter Tryz.func96, Tryz.ntmps96
    go_wp2_with (fail)
    refine HI.mono ?_
    rintro e w1 ⟨rfl, rfl⟩
    clear HI
    have HA := padd2 H.out [x] rfl #[.string x] rfl HE.out
    go_wp2_with (fail)
    refine HA.mono ?_
    rintro e w2 ⟨rfl, p2, f2⟩
    go_wp2_with (fail)
    go_end0
    exact ⟨rfl, p2, f2⟩
  · have e : prV ⟨vk, vi, vt⟩ = spS [⟨#[36]⟩, vt] := by
      simp [prV, k0, k1, k2, spS, sp, byL]
    rw [e] at hlen ⊢
    have HA := padd2 h [⟨#[36]⟩, vt] rfl #[.string ⟨#[36]⟩, .string vt] rfl hlen
    have b0 : (vk == 0) = false := by simpa using k0
    have b1 : (vk == 1) = false := by simpa using k1
    have b2 : (vk == 2) = false := by simpa using k2
    clear h hlen e
    go_enter Tryz.func96, Tryz.ntmps96
    go_wp2_with (fail)
    refine HA.mono ?_
    rintro e w2 ⟨rfl, p2, f2⟩
    go_wp2_with (fail)
    go_end0
    exact ⟨rfl, p2, f2⟩
end Go.Proofs.YthaegncocdddfaaGreatDoor

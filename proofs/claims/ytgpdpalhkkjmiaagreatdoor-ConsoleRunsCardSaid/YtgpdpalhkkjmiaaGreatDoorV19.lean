/- Merged: Cnt2 ConL. -/
import Derived.Lib.ItoaNum
import Derived.Lib.Join
import Derived.Test.YtgpdpalhkkjmiaaGreatDoorV00
import Derived.Test.YtgpdpalhkkjmiaaGreatDoorV11
import Derived.Test.YtgpdpalhkkjmiaaGreatDoorV14
import Derived.Test.YtgpdpalhkkjmiaaGreatDoorV17
import Derived.Test.YtgpdpalhkkjmiaaGreatDoorV18
/- Layers 6: gauss.Add. -/
namespace Go.Proofs.YtgpdpalhkkjmiaaGreatDoor
set_option linter.unusedVariables false
set_option linter.unusedSimpArgs false
set_option linter.unusedVariables false
set_option linter.unusedSimpArgs false
open Go.RowKit Go.Lib Go.Tt Go.Shelf
/-- The sum of two pairs. -/
def addPair (a b : Int × Int) : (Int × Int) × Int := if pairMay a = true ∧ pairMay b = true ∧ pairMay (a.1 + b.1, a.2 + b.2) = true then ((a.1 + b.1, a.2 + b.2), 0) else ((0, 0), 600)
def clampP (p : Int × Int) : Int × Int := if pairMay p = true then p else (0, 0)
theorem clampP_bd (p : Int × Int) : (-4503599627370496 ≤ (clampP p).1 ∧ (clampP p).1 ≤ 4503599627370496) ∧ -4503599627370496 ≤ (clampP p).2 ∧ (clampP p).2 ≤ 4503599627370496 := by
  unfold clampP
  by_cases h : pairMay p = true
  · rw [if_pos h]; exact of_decide_eq_true h
  · rw [if_neg h]; exact ⟨⟨by decide, by decide⟩, by decide, by decide⟩
theorem number_ok (p : Int × Int) (w : World) :
    Calls Tryz.prog 129 #[.agg #[.int .i64 p.1, .int .i64 p.2]] w fun e w' => e = .returned (.tuple #[.complex .f64 (fl (clampP p).1) (fl (clampP p).2), .bool (pairMay p)]) ∧ Frm No w w' := by
  rcases h : pairMay p with _ | _
  · have e : clampP p = (0, 0) := by unfold clampP; rw [if_neg (by rw [h]; decide)]
    rw [e]
    have e0 : fl 0 = 0 := by decide +kernel
    rw [show fl ((0, 0) : Int × Int).1 = 0 from e0]
    exact number_no h w
  · have e : clampP p = p := by unfold clampP; rw [if_pos h]
    rw [e]
    exact number_yes h w
theorem inPart_pair (a b : Int) : (inPart a && inPart b) = pairMay (a, b) := by
  unfold inPart pairMay
  rw [← Bool.decide_and]
set_option maxHeartbeats 1000000 in
set_option maxRecDepth 100000 in
theorem gaussAdd_ok (a b : Int × Int) (w : World) :
    Calls Tryz.prog 89 #[.agg #[.int .i64 a.1, .int .i64 a.2], .agg #[.int .i64 b.1, .int .i64 b.2]] w fun e w' => e = .returned (.tuple #[.agg #[.int .i64 (addPair a b).1.1, .int .i64 (addPair a b).1.2], .int .i64 (addPair a b).2]) ∧ Frm No w w' := by
  have ha := clampP_bd a
  have hb := clampP_bd b
  obtain ⟨z1, s1, o1, p1, t1⟩ := fl_sum ha.1 hb.1
  obtain ⟨z2, s2, o2, p2, t2⟩ := fl_sum ha.2 hb.2
  have hs : ∀ W, (binOp .add 167 (.complex .f64 (fl (clampP a).1) (fl (clampP a).2)) (.complex .f64 (fl (clampP b).1) (fl (clampP b).2))).run Tryz.prog W = .ok (.complex .f64 z1 z2) W := fun W =>
    run_complex_sum W .add (.inl rfl) 167 .f64 _ _ _ _ z1 z2 (by
      unfold cSumBits floatBits
      simp only [s1, s2, Option.bind_some])
  have n1 := Lib.hid (fun W => number_ok a W)
  have n2 := Lib.hid (fun W => number_ok b W)
  have hm := Lib.hid (fun W => gmay_ok o1 p1 o2 p2 W)
  have T1 := Lib.hid t1
  have T2 := Lib.hid t2
  obtain ⟨fa1, hfa1⟩ : ∃ x, Hid (x = fl (clampP a).1) := ⟨_, Lib.hid rfl⟩
  obtain ⟨fa2, hfa2⟩ : ∃ x, Hid (x = fl (clampP a).2) := ⟨_, Lib.hid rfl⟩
  obtain ⟨fb1, hfb1⟩ : ∃ x, Hid (x = fl (clampP b).1) := ⟨_, Lib.hid rfl⟩
  obtain ⟨fb2, hfb2⟩ : ∃ x, Hid (x = fl (clampP b).2) := ⟨_, Lib.hid rfl⟩
  rw [← hfa1.out, ← hfa2.out] at hs n1
  rw [← hfb1.out, ← hfb2.out] at hs n2
  clear s1 s2 o1 p1 o2 p2 t1 t2 hfa1 hfa2 hfb1 hfb2 ha hb
  obtain ⟨R, hR⟩ : ∃ R, Hid (R = addPair a b) := ⟨_, Lib.hid rfl⟩
  have HA : pairMay a = true → clampP a = a := fun h => if_pos h
  have HB : pairMay b = true → clampP b = b := fun h => if_pos h
  have HA := Lib.hid HA
  have HB := Lib.hid HB
  have hbad : (pairMay a = false ∨ pairMay b = false ∨ pairMay (a.1 + b.1, a.2 + b.2) = false) → R = ((0, 0), 600) := by
    intro h
    rw [hR.out]
    exact if_neg fun e => by
      rcases h with h | h | h
      · rw [e.1] at h; cases h
      · rw [e.2.1] at h; cases h
      · rw [e.2.2] at h; cases h
  have HBAD := Lib.hid hbad
  clear hbad
  rw [← hR.out]
  go_enter Tryz.func89, Tryz.ntmps89
  go_wp2_with (fail)
  refine (n1.out _).mono ?_
  rintro e w1 ⟨rfl, f1⟩
  have F1 : Frm No w w1 := ((((Frm.refl No w).al _).al _).al _).trans f1
  have B1 : w1.heap[w.heap.size + 1]? = some (.cells #[.int .i64 b.1, .int .i64 b.2] 65 (0, 0)) := f1.obj (al_old (al_at (by simp))) id
  have C1 : w1.heap[w.heap.size + 2]? = some (.cells #[.int .i64 0, .int .i64 0] 65 (0, 0)) := f1.obj (al_at (by simp)) id
  have b0 : w1.cell? ⟨w.heap.size + 1, 0, none⟩ = some (.int .i64 b.1) := obj_cell B1 0
  have b1 : w1.cell? ⟨w.heap.size + 1, 1, none⟩ = some (.int .i64 b.2) := obj_cell B1 1
  clear f1 n1
  go_wp2_with (fail)
  refine (n2.out _).mono ?_
  rintro e w2 ⟨rfl, f2⟩
  have F2 := F1.trans f2
  have C2 := f2.obj C1 id
  have z0 := obj_frz C2
  have c0 : w2.cell? ⟨w.heap.size + 2, 0, none⟩ = some (.int .i64 0) := obj_cell C2 0
  have c1 : w2.cell? ⟨w.heap.size + 2, 1, none⟩ = some (.int .i64 0) := obj_cell C2 1
  have nC := lt_of_block C2
  clear f2 n2 b0 b1 B1 C1 F1
  rcases hpa : pairMay a with _ | _
  · have hv := Lib.hid (HBAD.out (.inl hpa))
    go_wp2_with (fail)
    refine bodyPost_ret (v := .tuple #[.agg #[.int .i64 0, .int .i64 0], .int .i64 600]) (by simp [results, Tryz.results89, go_sem, *]) rfl ?_
    rw [hv.out]
    exact ⟨rfl, (F2.st (by omega) _ _).st (by omega) _ _⟩
  rcases hpb : pairMay b with _ | _
  · have hv := Lib.hid (HBAD.out (.inr (.inl hpb)))
    have HPA := Lib.hid hpa
    go_wp2_with (fail)
    refine bodyPost_ret (v := .tuple #[.agg #[.int .i64 0, .int .i64 0], .int .i64 600]) (by simp [results, Tryz.results89, go_sem, *]) rfl ?_
    rw [hv.out]
    exact ⟨rfl, (F2.st (by omega) _ _).st (by omega) _ _⟩
  rw [HA.out hpa, HB.out hpb] at hm T1 T2
  rw [inPart_pair] at hm
  rcases hpc : pairMay (a.1 + b.1, a.2 + b.2) with _ | _
  · have hv := Lib.hid (HBAD.out (.inr (.inr hpc)))
    rw [hpc] at hm
    clear hpc
    go_wp2_with (fail)
    refine (hm.out _).mono ?_
    rintro e w' ⟨rfl, rfl⟩
    go_wp2_with (fail)
    refine bodyPost_ret (v := .tuple #[.agg #[.int .i64 0, .int .i64 0], .int .i64 600]) (by simp [results, Tryz.results89, go_sem, *]) rfl ?_
    rw [hv.out]
    exact ⟨rfl, (F2.st (by omega) _ _).st (by omega) _ _⟩
  · have hd := of_decide_eq_true hpc
    have hv : Hid (R = ((a.1 + b.1, a.2 + b.2), 0)) := Lib.hid (by rw [hR.out]; exact if_pos ⟨hpa, hpb, hpc⟩)
    have hp := Lib.hid (fun W => gpair_ok (T1.out hd.1.1 hd.1.2) (T2.out hd.2.1 hd.2.2) hd.1 hd.2 W)
    rw [hpc] at hm
    clear hpc hd
    go_wp2_with (fail)
    refine (hm.out _).mono ?_
    rintro e w' ⟨rfl, rfl⟩
    go_wp2_with (fail)
    refine (hp.out _).mono ?_
    rintro e w3 ⟨rfl, f3⟩
    have F3 := F2.trans f3
    have C3 := f3.obj C2 id
    clear z0 c0 c1 nC
    have z0 := obj_frz C3
    have c0 : w3.cell? ⟨w.heap.size + 2, 0, none⟩ = some (.int .i64 0) := obj_cell C3 0
    have c1 : w3.cell? ⟨w.heap.size + 2, 1, none⟩ = some (.int .i64 0) := obj_cell C3 1
    have nC := lt_of_block C3
    obtain ⟨x, hx⟩ : ∃ x, Hid (x = a.1 + b.1) := ⟨_, Lib.hid rfl⟩
    obtain ⟨y, hy⟩ : ∃ y, Hid (y = a.2 + b.2) := ⟨_, Lib.hid rfl⟩
    rw [← hx.out, ← hy.out] at hv
    rw [← hx.out, ← hy.out]
    clear hp hm
    go_wp2_with (fail)
    refine bodyPost_ret (v := .tuple #[.agg #[.int .i64 x, .int .i64 y], .int .i64 0]) (by simp [results, Tryz.results89, go_sem, *]) rfl ?_
    rw [hv.out]
    exact ⟨rfl, (F3.st (by omega) _ _).st (by omega) _ _⟩
end Go.Proofs.YtgpdpalhkkjmiaaGreatDoor

/- The console's model: what each line tells, in plain words. -/
namespace Go.Proofs.YtgpdpalhkkjmiaaGreatDoor
set_option linter.unusedVariables false
set_option linter.unusedSimpArgs false
open Go.RowKit Go.Lib Go.Tt
def dashB (w : ByteArray) : Bool := hasPrefix w.data.toList [45]
def cutB (w : ByteArray) : ByteArray := ⟨(trimPrefix w.data.toList [45]).toArray⟩
def eqC (a b : ByteArray) : Bool := a.data.toList == b.data.toList
theorem eqC_iff {a b : ByteArray} : eqC a b = true ↔ a = b := by
  unfold eqC
  rw [beq_iff_eq]
  exact ⟨fun h => data_inj h, fun h => by rw [h]⟩
theorem eqC_dec (a b : ByteArray) : eqC a b = decide (a = b) := by
  rw [Bool.eq_iff_iff, eqC_iff, decide_eq_true_iff]
/-! ## Sets -/
def setS (i : Nat) (l : List En) (w : ByteArray) : Option (List En) :=
  if dashB w then some (l.filter fun e => !eqC e.2.2 (cutB w)) else if Nat.ble 257 w.size then none else some (l ++ [(0, ((i + 1 : Nat) : Int), w)])
def setG : Nat → List En → List ByteArray → Option (List En)
  | _, l, [] => some l
  | i, l, w :: ws => match setS i l w with
    | none => none
    | some l' => setG (i + 1) l' ws
structure IncE (l : List En) (i : Nat) : Prop where
  pw : l.Pairwise fun a b => a.2.1 < b.2.1
  el : ∀ e ∈ l, e.1 = 0 ∧ 1 ≤ e.2.1 ∧ e.2.1 ≤ (i : Int)
theorem IncE.nil : IncE [] 0 := ⟨List.Pairwise.nil, by simp⟩
theorem IncE.step {l : List En} {i : Nat} {w : ByteArray} {l' : List En} (h : IncE l i) (hs : setS i l w = some l') : IncE l' (i + 1) := by
  unfold setS at hs
  split at hs
  · cases hs
    exact ⟨h.pw.filter _, fun e he => by have := h.el e ((List.mem_filter.1 he).1); omega⟩
  · split at hs
    · cases hs
    · cases hs
      refine ⟨List.pairwise_append.2 ⟨h.pw, List.pairwise_singleton _ _, ?_⟩, ?_⟩
      · intro a ha b hb
        have := h.el a ha
        rw [List.mem_singleton] at hb
        subst hb
        show a.2.1 < ((i + 1 : Nat) : Int)
        omega
      · intro e he
        rw [List.mem_append, List.mem_singleton] at he
        rcases he with he | rfl
        · have := h.el e he; omega
        · show (0 : Int) = 0 ∧ (1 : Int) ≤ ((i + 1 : Nat) : Int) ∧ ((i + 1 : Nat) : Int) ≤ ((i + 1 : Nat) : Int)
          omega
theorem setS_len {l : List En} {i : Nat} {w : ByteArray} {l' : List En} (hs : setS i l w = some l') : l'.length ≤ l.length + 1 := by
  unfold setS at hs
  split at hs
  · cases hs; have := List.length_filter_le (fun e : En => !eqC e.2.2 (cutB w)) l; omega
  · split at hs
    · cases hs
    · cases hs; simp
theorem put_end {l : List En} {i : Nat} {w : ByteArray} (h : IncE l i) : putEn l (0, ((i + 1 : Nat) : Int)) w = l ++ [(0, ((i + 1 : Nat) : Int), w)] := by
  have e : putAt l (0, ((i + 1 : Nat) : Int)) = l.length := by
    unfold putAt
    apply List.findIdx_eq_length_of_false
    intro x hx
    have := h.el x hx
    unfold dotLess
    rw [decide_eq_false_iff_not]
    show ¬ ((0 : Int) < x.1 ∨ (0 : Int) = x.1 ∧ ((i + 1 : Nat) : Int) < x.2.1)
    omega
  unfold putEn
  rw [e, List.take_length, List.drop_length]
theorem put_new {l : List En} {i : Nat} (h : IncE l i) : ∀ e ∈ l, (e.1, e.2.1) ≠ ((0 : Int), ((i + 1 : Nat) : Int)) := by
  intro e he hc
  have h1 := h.el e he
  have h2 : e.2.1 = ((i + 1 : Nat) : Int) := congrArg Prod.snd hc
  omega
theorem pw_inj {l : List En} (h : l.Pairwise fun a b => a.2.1 < b.2.1) {a b : En} (ha : a ∈ l) (hb : b ∈ l) (e : a.2.1 = b.2.1) : a = b := by
  induction h with
  | nil => cases ha
  | @cons x t hx ht ih =>
    rw [List.mem_cons] at ha hb
    rcases ha with rfl | ha <;> rcases hb with rfl | hb
    · rfl
    · have := hx b hb; omega
    · have := hx a ha; omega
    · exact ih ha hb
theorem drop_vals {l : List En} {i : Nat} (h : IncE l i) (v : ByteArray) : dropped l (dotsOf l v) = l.filter fun e => !eqC e.2.2 v := by
  unfold dropped
  apply List.filter_congr
  intro e he
  have : (e.1, e.2.1) ∈ dotsOf l v ↔ e.2.2 = v := by
    unfold dotsOf
    rw [List.mem_map]
    constructor
    · rintro ⟨x, hx, hd⟩
      rw [List.mem_filter] at hx
      have : x = e := pw_inj h.pw hx.1 he (congrArg Prod.snd hd)
      subst this
      exact of_decide_eq_true hx.2
    · intro hv
      exact ⟨e, List.mem_filter.2 ⟨he, decide_eq_true hv⟩, rfl⟩
  rw [Bool.eq_iff_iff, decide_eq_true_iff, this, Bool.not_eq_true', ← Bool.not_eq_true, eqC_iff]
/-! ## Values, put in their row -/
def bltL : List UInt8 → List UInt8 → Bool
  | [], [] => false
  | [], _ :: _ => true
  | _ :: _, [] => false
  | a :: s, b :: t => Nat.blt a.toNat b.toNat || (a == b && bltL s t)
theorem bltL_iff : ∀ {s t : List UInt8}, bltL s t = true ↔ s < t
  | [], [] => by simp [bltL]
  | [], _ :: _ => by simp [bltL]
  | _ :: _, [] => by simp [bltL]
  | a :: s, b :: t => by
    have hb : (Nat.blt a.toNat b.toNat = true) ↔ a < b := by
      rw [UInt8.lt_iff_toNat_lt]
      show Nat.ble (a.toNat + 1) b.toNat = true ↔ _
      rw [Nat.ble_eq]; omega
    rw [List.cons_lt_cons_iff]
    unfold bltL
    rw [Bool.or_eq_true, Bool.and_eq_true, hb, beq_iff_eq, bltL_iff]
def insV (x : ByteArray) : List ByteArray → List ByteArray
  | [] => [x]
  | y :: t => if bltL x.data.toList y.data.toList then x :: y :: t else if eqC x y then y :: t else y :: insV x t
def valsI (l : List En) : List ByteArray := l.foldr (fun e m => insV e.2.2 m) []
theorem mem_insV {x z : ByteArray} : ∀ {m : List ByteArray}, z ∈ insV x m ↔ z = x ∨ z ∈ m
  | [] => by simp [insV]
  | y :: t => by
    unfold insV
    split
    · simp
    · split
      · rename_i h1 h2
        rw [eqC_iff] at h2
        subst h2
        simp
      · rw [List.mem_cons, mem_insV, List.mem_cons]
        constructor
        · rintro (h | h | h)
          · exact .inr (.inl h)
          · exact .inl h
          · exact .inr (.inr h)
        · rintro (h | h | h)
          · exact .inr (.inl h)
          · exact .inl h
          · exact .inr (.inr h)
theorem insV_pw {x : ByteArray} : ∀ {m : List ByteArray}, m.Pairwise ltB → (insV x m).Pairwise ltB
  | [], _ => List.pairwise_singleton _ _
  | y :: t, h => by
    rw [List.pairwise_cons] at h
    unfold insV
    split
    · rename_i h1
      rw [bltL_iff] at h1
      rw [List.pairwise_cons, List.pairwise_cons]
      refine ⟨fun z hz => ?_, h⟩
      rw [List.mem_cons] at hz
      rcases hz with rfl | hz
      · exact h1
      · exact List.lt_trans h1 (h.1 z hz)
    · split
      · rw [List.pairwise_cons]; exact h
      · rename_i h1 h2
        rw [bltL_iff] at h1
        rw [eqC_iff] at h2
        rw [List.pairwise_cons]
        refine ⟨fun z hz => ?_, insV_pw h.2⟩
        rw [mem_insV] at hz
        rcases hz with rfl | hz
        · exact ltL_of (List.not_lt.1 h1) fun e => h2 (data_inj e.symm)
        · exact h.1 z hz
theorem valsI_pw : ∀ (l : List En), (valsI l).Pairwise ltB
  | [] => List.Pairwise.nil
  | _ :: t => insV_pw (valsI_pw t)
theorem mem_valsI {x : ByteArray} : ∀ {l : List En}, x ∈ valsI l ↔ ∃ e ∈ l, e.2.2 = x
  | [] => by simp [valsI]
  | e :: t => by
    show x ∈ insV e.2.2 (valsI t) ↔ _
    rw [mem_insV, mem_valsI]
    constructor
    · rintro (h | ⟨y, hy, h⟩)
      · exact ⟨e, List.mem_cons_self .., h.symm⟩
      · exact ⟨y, List.mem_cons_of_mem _ hy, h⟩
    · rintro ⟨y, hy, h⟩
      rw [List.mem_cons] at hy
      rcases hy with rfl | hy
      · exact .inl h.symm
      · exact .inr ⟨y, hy, h⟩
theorem valsOf_I (l : List En) : valsOf l = valsI l := valsOf_eq (valsI_pw l) fun _ => mem_valsI
/-! ## Lists -/
def eraFst : List El → List El
  | [] => []
  | x :: t => if x.2.2.2.2 then x :: eraFst t else goneEl x :: t
def newEl (i : Nat) (w : ByteArray) : El := (0, ((i + 1 : Nat) : Int), ((i + 1 : Nat) : Int), w, false)
def listS (i : Nat) (l : List El) (w : ByteArray) : Option (List El) :=
  if dashB w then some (eraFst l) else if Nat.ble 257 w.size then none else some (l ++ [newEl i w])
def listG : Nat → List El → List ByteArray → Option (List El)
  | _, l, [] => some l
  | i, l, w :: ws => match listS i l w with
    | none => none
    | some l' => listG (i + 1) l' ws
def lastD (l : List El) : Dt := match l.getLast? with
  | none => (0, 0)
  | some e => (e.1, e.2.1)
structure IncL (l : List El) (i : Nat) : Prop where
  pw : l.Pairwise fun a b => a.2.1 < b.2.1
  el : ∀ e ∈ l, e.1 = 0 ∧ 1 ≤ e.2.1 ∧ e.2.1 ≤ (i : Int)
  vl : ∀ e ∈ l, e.2.2.2.1.size ≤ 256
theorem IncL.nil : IncL [] 0 := ⟨List.Pairwise.nil, by simp, by simp⟩
theorem era_len : ∀ l : List El, (eraFst l).length = l.length
  | [] => rfl
  | x :: t => by
    unfold eraFst
    split
    · rw [List.length_cons, era_len, List.length_cons]
    · simp
theorem era_dots : ∀ l : List El, (eraFst l).map (fun e => (e.1, e.2.1)) = l.map fun e => (e.1, e.2.1)
  | [] => rfl
  | x :: t => by
    unfold eraFst
    split
    · rw [List.map_cons, era_dots, List.map_cons]
    · rfl
theorem era_last (l : List El) : lastD (eraFst l) = lastD l := by
  have h : ∀ m : List El, lastD m = ((m.map fun e => (e.1, e.2.1)).getLast?).getD (0, 0) := by
    intro m
    unfold lastD
    rw [List.getLast?_map]
    cases m.getLast? <;> rfl
  rw [h, h, era_dots]
theorem pw_map (l : List El) : l.Pairwise (fun a b => a.2.1 < b.2.1) ↔ (l.map fun e => (e.1, e.2.1)).Pairwise fun a b : Dt => a.2 < b.2 := by
  rw [List.pairwise_map]
theorem era_mem : ∀ {l : List El} {e : El}, e ∈ eraFst l → ∃ x ∈ l, e.1 = x.1 ∧ e.2.1 = x.2.1 ∧ e.2.2.2.1.size ≤ x.2.2.2.1.size
  | [], e, h => by cases h
  | x :: t, e, h => by
    unfold eraFst at h
    split at h
    · rw [List.mem_cons] at h
      rcases h with rfl | h
      · exact ⟨e, List.mem_cons_self .., rfl, rfl, Nat.le_refl _⟩
      · obtain ⟨y, hy, h'⟩ := era_mem h
        exact ⟨y, List.mem_cons_of_mem _ hy, h'⟩
    · rw [List.mem_cons] at h
      rcases h with rfl | h
      · exact ⟨x, List.mem_cons_self .., rfl, rfl, Nat.zero_le _⟩
      · exact ⟨e, List.mem_cons_of_mem _ h, rfl, rfl, Nat.le_refl _⟩
theorem IncL.era {l : List El} {i : Nat} (h : IncL l i) : IncL (eraFst l) i :=
  ⟨by rw [pw_map, era_dots, ← pw_map]; exact h.pw, fun e he => by
    obtain ⟨x, hx, h1, h2, _⟩ := era_mem he
    rw [h1, h2]; exact h.el x hx, fun e he => by
    obtain ⟨x, hx, _, _, h3⟩ := era_mem he
    exact Nat.le_trans h3 (h.vl x hx)⟩
theorem IncL.up {l : List El} {i : Nat} (h : IncL l i) : IncL l (i + 1) := ⟨h.pw, fun e he => by have := h.el e he; omega, h.vl⟩
theorem IncL.new {l : List El} {i : Nat} (h : IncL l i) {w : ByteArray} (hw : w.size ≤ 256) : IncL (l ++ [newEl i w]) (i + 1) := by
  refine ⟨List.pairwise_append.2 ⟨h.pw, List.pairwise_singleton _ _, ?_⟩, ?_, ?_⟩
  · intro a ha b hb
    have := h.el a ha
    rw [List.mem_singleton] at hb
    subst hb
    show a.2.1 < ((i + 1 : Nat) : Int)
    omega
  · intro e he
    rw [List.mem_append, List.mem_singleton] at he
    rcases he with he | rfl
    · have := h.el e he; omega
    · show (0 : Int) = 0 ∧ (1 : Int) ≤ ((i + 1 : Nat) : Int) ∧ ((i + 1 : Nat) : Int) ≤ ((i + 1 : Nat) : Int)
      omega
  · intro e he
    rw [List.mem_append, List.mem_singleton] at he
    rcases he with he | rfl
    · exact h.vl e he
    · exact hw
theorem last_new (l : List El) (i : Nat) (w : ByteArray) : lastD (l ++ [newEl i w]) = (0, ((i + 1 : Nat) : Int)) := by
  unfold lastD
  rw [List.getLast?_concat]
  rfl
theorem IncL.ne {l : List El} {i : Nat} (h : IncL l i) {j k : Nat} (hj : j < l.length) (hk : k < l.length) (hjk : j < k) : ((l[j]).1, (l[j]).2.1) ≠ ((l[k]).1, (l[k]).2.1) := by
  intro e
  have h1 := List.pairwise_iff_getElem.1 h.pw j k hj hk hjk
  have h2 : (l[j]).2.1 = (l[k]).2.1 := congrArg Prod.snd e
  omega
theorem eq_nil_or_app {α : Type} (l : List α) : l = [] ∨ ∃ m x, l = m ++ [x] := by
  rcases List.eq_nil_or_concat l with h | ⟨m, x, h⟩
  · exact .inl h
  · exact .inr ⟨m, x, by rw [h, List.concat_eq_append]⟩
/-- An element behind the last. -/
theorem ins_end {l : List El} {i : Nat} (h : IncL l i) (w : ByteArray) {c : CellV} (hc : c.elems = l) : insF c (newEl i w) (lastD l) = ({ c with elems := l ++ [newEl i w] }, 0) := by
  have hf : findEl l (0, ((i + 1 : Nat) : Int)) = -1 := findEl_no fun j hj e => by
    have h1 := h.el _ (List.getElem_mem hj)
    have h2 : (l[j]).2.1 = ((i + 1 : Nat) : Int) := congrArg Prod.snd e
    omega
  have hp : placeOf l (stOf (newEl i w)) (lastD l) = some l.length := by
    rcases eq_nil_or_app l with rfl | ⟨m, x, rfl⟩
    · rfl
    · have hx := h.el x (List.mem_append_right _ (List.mem_singleton.2 rfl))
      have hl : lastD (m ++ [x]) = (x.1, x.2.1) := by unfold lastD; rw [List.getLast?_concat]
      rw [hl]
      unfold placeOf
      have hne : ¬ ((x.1, x.2.1) : Dt) = (0, 0) := fun e => by
        have : x.2.1 = 0 := congrArg Prod.snd e
        omega
      have hfi : findEl (m ++ [x]) (x.1, x.2.1) = (m.length : Nat) := findEl_at (by simp) (by simp) fun j hj hjm => by
        have hk : m.length < (m ++ [x]).length := by simp
        have := h.ne hj hk hjm
        simpa using this
      rw [if_neg hne, hfi, if_neg (by omega)]
      unfold walkTo
      have e1 : ((m.length : Nat) + 1 : Int).toNat = m.length + 1 := by omega
      rw [e1, List.drop_eq_nil_of_le (by simp)]
      simp
  unfold insF
  rw [hc]
  show (if 0 ≤ findEl l (0, ((i + 1 : Nat) : Int)) then _ else _) = _
  rw [hf, if_neg (by omega), hp]
  simp
/-- The first element that is not gone. -/
theorem era_first : ∀ {l : List El} {x : El} {t : List El}, (l.filter fun e => !e.2.2.2.2) = x :: t → ∃ k, ∃ h : k < l.length, l[k] = x ∧ setGone l k = eraFst l
  | [], _, _, h => by cases h
  | y :: l, x, t, h => by
    cases hy : y.2.2.2.2 with
    | false =>
      rw [List.filter_cons_of_pos (by simp [hy])] at h
      cases h
      refine ⟨0, by simp, rfl, ?_⟩
      unfold eraFst setGone
      rw [hy]
      simp
    | true =>
      rw [List.filter_cons_of_neg (by simp [hy])] at h
      obtain ⟨k, hk, h1, h2⟩ := era_first h
      refine ⟨k + 1, by simp; omega, by simpa using h1, ?_⟩
      unfold eraFst
      rw [hy, if_pos rfl, ← h2]
      unfold setGone
      simp
theorem era_f {l : List El} {i : Nat} (h : IncL l i) {x : El} {t : List El} (hx : (l.filter fun e => !e.2.2.2.2) = x :: t) {c : CellV} (hc : c.elems = l) : eraF c (x.1, x.2.1) = ({ c with elems := eraFst l }, 0) := by
  obtain ⟨k, hk, h1, h2⟩ := era_first hx
  have hf : findEl l (x.1, x.2.1) = (k : Nat) := findEl_at hk (by rw [h1]) fun j hj hjk => by
    have := h.ne hj hk hjk
    rw [h1] at this
    exact this
  unfold eraF
  rw [hc, hf, if_neg (by omega), Int.toNat_natCast, h2]
theorem era_none : ∀ {l : List El}, (l.filter fun e => !e.2.2.2.2) = [] → eraFst l = l
  | [], _ => rfl
  | y :: l, h => by
    cases hy : y.2.2.2.2 with
    | false => rw [List.filter_cons_of_pos (by simp [hy])] at h; cases h
    | true =>
      rw [List.filter_cons_of_neg (by simp [hy])] at h
      unfold eraFst
      rw [hy, if_pos rfl, era_none h]
/-! ## Lines -/
def errT (n : Int) : List UInt8 := [101, 114, 114, 111, 114, 32] ++ itoa n
def joinT (vs : List ByteArray) (sep : List UInt8) : List UInt8 := join (vs.map (·.data.toList)) sep
def setT (ws : List ByteArray) : List UInt8 := match setG 0 [] ws with
  | none => errT 900
  | some l => joinT (valsI l) [32]
def listT (ws : List ByteArray) : List UInt8 := match listG 0 [] ws with
  | none => errT 1000
  | some l => joinT (valsL l) [32]
def numsL : List ByteArray → Option (List Int)
  | [] => some []
  | w :: ws => match numL w.data.toList with
    | none => none
    | some x => match numsL ws with
      | none => none
      | some xs => some (x :: xs)
def pairsUp : List Int → List (Int × Int)
  | a :: b :: t => (a, b) :: pairsUp t
  | _ => []
def sumP : Int × Int → List (Int × Int) → Int × Int
  | s, [] => s
  | s, p :: t => sumP (s.1 + p.1, s.2 + p.2) t
def gtext (p : Int × Int) : List UInt8 := itoa p.1 ++ if p.2 = 0 then [] else (if 0 < p.2 then [43] else []) ++ itoa p.2 ++ [105]
def pairT (ws : List ByteArray) : List UInt8 := match numsL ws with
  | none => errT 2500
  | some ns => if ns.length % 2 = 1 then errT 2500 else gtext (sumP (0, 0) (pairsUp ns))
def adlG : Nat → Nat → List UInt8 → Nat
  | a, b, [] => b * 65536 + a
  | a, b, x :: t => adlG ((a + x.toNat) % 65521) ((b + (a + x.toNat) % 65521) % 65521) t
def sumT (ws : List ByteArray) : List UInt8 := itoa (adlG 1 0 (joinT ws []))
def nPair : List UInt8 := [112, 97, 105, 114]
def nSum : List UInt8 := [115, 117, 109]
def nSet : List UInt8 := [115, 101, 116]
def nList : List UInt8 := [108, 105, 115, 116]
def tellL (w : List UInt8) (ws : List ByteArray) : List UInt8 :=
  if w == nPair then pairT ws else if w == nSum then sumT ws else if w == nSet then setT ws else if w == nList then listT ws else errT 2500
def wordsB (l : List UInt8) : List ByteArray := (wordsL l).map fun w => ⟨w.toArray⟩
def lineT (l : List UInt8) : List UInt8 := match wordsB l with
  | [] => []
  | w :: ws => if w.data.toList.head? == some 35 then [] else tellL w.data.toList ws ++ [10]
def runL (s : List UInt8) : List UInt8 := (linesL s).flatMap lineT
end Go.Proofs.YtgpdpalhkkjmiaaGreatDoor

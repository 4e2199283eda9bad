/- Merged: Vec Vec2. -/
import Derived.Test.YtofikfkgiblblaaGreatDoorQ09
/- Layers 3 and 4: may a dot, a time, a vector be; what a vector has; both the code's and the reference's functions. -/
namespace Go.Proofs.YtofikfkgiblblaaGreatDoor
set_option linter.unusedVariables false
set_option linter.unusedSimpArgs false
set_option linter.unusedVariables false
set_option linter.unusedSimpArgs false
open Go.RowKit Go.Lib Go.Tt
def nodesMay (n : Int) : Bool := decide (1 ≤ n ∧ n ≤ 16)
def timeMay (t : Int) : Bool := decide (1 ≤ t ∧ t ≤ 16777215)
def dotMayN (d : Dt) (n : Int) : Bool := decide ((1 ≤ n ∧ n ≤ 16) ∧ 0 ≤ d.1 ∧ d.1 < n ∧ 1 ≤ d.2 ∧ d.2 ≤ 1048575)
def vecMay (l : List Int) (n : Int) : Bool := decide ((1 ≤ n ∧ n ≤ 16) ∧ (l.length : Int) = n ∧ ∀ x ∈ l, 0 ≤ x ∧ x ≤ 1048575)
def vHas (l : List Int) (d : Dt) : Bool := decide (0 ≤ d.1 ∧ d.1 < l.length ∧ 1 ≤ d.2 ∧ d.2 ≤ l.getD d.1.toNat 0)
def vUnder (a b : List Int) : Bool := vecMay a a.length && vecMay b a.length && decide (∀ i, i < a.length → a.getD i 0 ≤ b.getD i 0)
theorem nodes_ok (n : Int) (w : World) : Calls Tryz.prog 34 #[.int .i64 n] w fun e w' => e = .returned (.bool (nodesMay n)) ∧ w = w' := by
  go_enter Tryz.func34, Tryz.ntmps34
  go_wp2
  all_goals go_ret
  all_goals exact ⟨congrArg (fun b => Ending.returned (Value.bool b)) (by unfold nodesMay; first | exact dec_f (by omega) | exact dec_t (by omega) | exact dec_d (by omega)), rfl⟩
theorem time_ok (n : Int) (w : World) : Calls Tryz.prog 61 #[.int .i64 n] w fun e w' => e = .returned (.bool (timeMay n)) ∧ w = w' := by
  go_enter Tryz.func61, Tryz.ntmps61
  go_wp2
  all_goals go_ret
  all_goals exact ⟨congrArg (fun b => Ending.returned (Value.bool b)) (by unfold timeMay; first | exact dec_f (by omega) | exact dec_t (by omega) | exact dec_d (by omega)), rfl⟩
set_option maxRecDepth 100000 in
theorem dotMay_ok (d : Dt) (n : Int) (w : World) : Calls Tryz.prog 60 #[.agg #[.int .i64 d.1, .int .i64 d.2], .int .i64 n] w fun e w' => e = .returned (.bool (dotMayN d n)) ∧ Frm No w w' := by
  go_enter Tryz.func60, Tryz.ntmps60
  by_cases hn : 1 ≤ n ∧ n ≤ 16
  · have hn' : nodesMay n = true := decide_eq_true hn
    go_wp2_with (go_at_call 34; refine (nodes_ok _ _).mono ?_; rintro e w' ⟨rfl, rfl⟩)
    all_goals go_ret
    all_goals exact ⟨congrArg (fun b => Ending.returned (Value.bool b)) (by unfold dotMayN; first | exact dec_f (by omega) | exact dec_t (by omega) | exact dec_d (by omega)), (Frm.refl No w).al _⟩
  · have hn' : nodesMay n = false := decide_eq_false hn
    go_wp2_with (go_at_call 34; refine (nodes_ok _ _).mono ?_; rintro e w' ⟨rfl, rfl⟩)
    all_goals go_ret
    all_goals exact ⟨congrArg (fun b => Ending.returned (Value.bool b)) (by unfold dotMayN; first | exact dec_f (by omega) | exact dec_t (by omega) | exact dec_d (by omega)), (Frm.refl No w).al _⟩
set_option maxRecDepth 100000 in
theorem refDotMay_ok (d : Dt) (n : Int) (w : World) : Calls Tryz.prog 72 #[.agg #[.int .i64 d.1, .int .i64 d.2], .int .i64 n] w fun e w' => e = .returned (.bool (dotMayN d n)) ∧ Frm No w w' := by
  go_enter Tryz.func72, Tryz.ntmps72
  go_wp2
  all_goals go_ret
  all_goals exact ⟨congrArg (fun b => Ending.returned (Value.bool b)) (by unfold dotMayN; first | exact dec_f (by omega) | exact dec_t (by omega) | exact dec_d (by omega)), (Frm.refl No w).al _⟩
theorem all_step {p : Int → Prop} {l : List Int} {i : Nat} {x : Int} (h : i < l.length) (hx : Hid (x = l[i])) (hp : ∀ y ∈ l.take i, p y) (h1 : p x) : ∀ y ∈ l.take (i + 1), p y := by
  intro y hy
  rw [List.take_succ_eq_append_getElem h, List.mem_append] at hy
  rcases hy with hy | hy
  · exact hp y hy
  · simp only [List.mem_singleton] at hy
    rw [hy, ← hx.out]
    exact h1
set_option maxRecDepth 100000 in
theorem vecMay_ok {w : World} {a : Option Addr} {n c : Nat} {l : List Int} (h : RdS w eInt (.slice a n c) l) (k : Int) :
    Calls Tryz.prog 48 #[.slice a n c, .int .i64 k] w fun e w' => e = .returned (.bool (vecMay l k)) ∧ w = w' := by
  obtain ⟨hn, hc1, hc2, -⟩ := h.facts
  unfold maxLen at hc2
  have HN := Lib.hid hn
  clear hn
  go_enter Tryz.func48, Tryz.ntmps48
  by_cases hk : 1 ≤ k ∧ k ≤ 16
  case neg =>
    have hk' : nodesMay k = false := decide_eq_false hk
    go_wp2_with (go_at_call 34; refine (nodes_ok _ _).mono ?_; rintro e w' ⟨rfl, rfl⟩)
    all_goals go_ret
    all_goals exact ⟨congrArg (fun b => Ending.returned (Value.bool b)) (dec_f fun e => hk e.1), rfl⟩
  have hk' : nodesMay k = true := decide_eq_true hk
  by_cases hnk : (n : Int) = k
  case neg =>
    go_wp2_with (go_at_call 34; refine (nodes_ok _ _).mono ?_; rintro e w' ⟨rfl, rfl⟩)
    all_goals go_ret
    all_goals exact ⟨congrArg (fun b => Ending.returned (Value.bool b)) (dec_f fun e => hnk (by rw [HN.out]; exact e.2.1)), rfl⟩
  go_wp2_with (go_at_call 34; refine (nodes_ok _ _).mono ?_; rintro e w' ⟨rfl, rfl⟩)
  go_loopg [18] (n + 1) (fun g iv wr => ∃ i : Nat, iv = .int .i64 i ∧ wr = w ∧ i ≤ n ∧ g = n - i + 1 ∧ ∀ y ∈ l.take i, 0 ≤ y ∧ y ≤ 1048575)
  case atStart => exact ⟨0, rfl, rfl, Nat.zero_le _, by omega, by simp⟩
  case round =>
    obtain ⟨i, rfl, rfl, hi, hg, hp⟩ := hrel
    have hG := Lib.hid hg
    have hP := Lib.hid hp
    clear hg hp
    by_cases hlt : i < n
    · have l1 : i < l.length := by rw [← HN.out]; exact hlt
      obtain ⟨b, off, rfl, hb, hc⟩ := h.at l1
      have e0 : wr.cell? ⟨b, off + i, none⟩ = some (.int .i64 l[i]) := by have := hc 0 _ rfl; rwa [show i * eInt.k + 0 = i from Nat.mul_one i] at this
      clear hc h
      obtain ⟨x, hx⟩ : ∃ x, Hid (x = l[i]) := ⟨_, Lib.hid rfl⟩
      rw [← hx.out] at e0
      by_cases hb1 : x < 0
      · go_wp2
        go_ret
        exact ⟨congrArg (fun b => Ending.returned (Value.bool b)) (dec_f fun e => by have := (e.2.2 _ (List.getElem_mem l1)).1; rw [← hx.out] at this; omega), rfl⟩
      by_cases hb2 : 1048575 < x
      · go_wp2
        go_ret
        exact ⟨congrArg (fun b => Ending.returned (Value.bool b)) (dec_f fun e => by have := (e.2.2 _ (List.getElem_mem l1)).2; rw [← hx.out] at this; omega), rfl⟩
      go_wp2
      go_roundg (n - (i + 1) + 1)
      case measure => have := hG.out; omega
      case rel => exact ⟨i + 1, by go_num, rfl, by omega, rfl, all_step l1 hx hP.out (by omega)⟩
    · go_wp2
      go_ret
      refine ⟨congrArg (fun b => Ending.returned (Value.bool b)) (dec_t ⟨hk, by rw [← HN.out]; exact hnk, fun x hx => hP.out x ?_⟩), rfl⟩
      rwa [List.take_of_length_le (by rw [← HN.out]; omega)]
set_option maxRecDepth 100000 in
theorem has_ok {w : World} {a : Option Addr} {n c : Nat} {l : List Int} (h : RdS w eInt (.slice a n c) l) (d : Dt) :
    Calls Tryz.prog 95 #[.slice a n c, .agg #[.int .i64 d.1, .int .i64 d.2]] w fun e w' => e = .returned (.bool (vHas l d)) ∧ Frm No w w' := by
  obtain ⟨hn, hc1, hc2, -⟩ := h.facts
  unfold maxLen at hc2
  have HN := Lib.hid hn
  clear hn
  by_cases h1 : 0 ≤ d.1 ∧ d.1 < n
  case neg =>
    have hv : vHas l d = false := decide_eq_false fun e => h1 ⟨e.1, by have := HN.out; have := e.2.1; omega⟩
    rw [hv]
    clear hv h
    go_enter Tryz.func95, Tryz.ntmps95
    go_wp2
    refine wp_region_plan [([0, 1, 2, 3, 4, 5, 6, 7, 8, 9, 10, 11, 12, 13, 14, 15, 16, 17, 18, 19, 20, 21, 22, 23, 24, 25], [])] 30 (by kernel_rfl) (by kernel_rfl) (by simp) ?_
    intro N hN
    simp only [wpSegs, List.map_cons, List.map_nil, List.getD_cons_zero, List.getD_cons_succ]
    by_cases g1 : 0 ≤ d.1
    · have g2 : ¬ d.1 < n := fun h => h1 ⟨g1, h⟩
      go_wp2
      go_ret
      exact ⟨rfl, ((Frm.refl No w).al _).dr _⟩
    · go_wp2
      go_ret
      exact ⟨rfl, ((Frm.refl No w).al _).dr _⟩
  obtain ⟨g1, g2⟩ := h1
  obtain ⟨k, hk⟩ : ∃ k : Nat, d.1 = k := ⟨d.1.toNat, by omega⟩
  have l1 : k < l.length := by rw [← HN.out]; omega
  obtain ⟨b, off, rfl, hb, hc⟩ := h.at l1
  have e0 : w.cell? ⟨b, off + k, none⟩ = some (.int .i64 l[k]) := by have := hc 0 _ rfl; rwa [show k * eInt.k + 0 = k from Nat.mul_one k] at this
  clear hc h
  obtain ⟨x, hx⟩ : ∃ x, Hid (x = l[k]) := ⟨_, Lib.hid rfl⟩
  rw [← hx.out] at e0
  have hv : vHas l d = decide (1 ≤ d.2 ∧ d.2 ≤ x) := by
    unfold vHas
    rw [hk, hx.out]
    refine decide_eq_decide.2 ⟨fun e => ⟨e.2.2.1, by have := e.2.2.2; simpa [List.getD, List.getElem?_eq_getElem l1] using this⟩, fun e => ⟨by omega, by have := HN.out; omega, e.1, by simpa [List.getD, List.getElem?_eq_getElem l1] using e.2⟩⟩
  rw [hv]
  clear hv
  obtain ⟨d1, d2⟩ := d
  simp only at hk g1 g2 ⊢
  subst hk
  go_enter Tryz.func95, Tryz.ntmps95
  go_wp2
  refine wp_region_plan [([0, 1, 2, 3, 4, 5, 6, 7, 8, 9, 10, 11, 12, 13, 14, 15, 16, 17, 18, 19, 20, 21, 22, 23, 24, 25], [])] 30 (by kernel_rfl) (by kernel_rfl) (by simp) ?_
  intro N hN
  simp only [wpSegs, List.map_cons, List.map_nil, List.getD_cons_zero, List.getD_cons_succ]
  go_wp2
  all_goals go_ret
  all_goals refine ⟨congrArg (fun b => Ending.returned (Value.bool b)) ?_, ((Frm.refl No w).al _).dr _⟩
  all_goals first | exact dec_f (by omega) | exact dec_t (by omega) | exact dec_d (by omega) | (simp; omega)
end Go.Proofs.YtofikfkgiblblaaGreatDoor

/- Layer 4: is a vector under another one; the reference's own functions on vectors, stamps. -/
namespace Go.Proofs.YtofikfkgiblblaaGreatDoor
set_option linter.unusedVariables false
set_option linter.unusedSimpArgs false
open Go.RowKit Go.Lib Go.Tt
theorem vecMay_len {l : List Int} {k : Int} (h : vecMay l k = true) : (l.length : Int) = k := (of_decide_eq_true h).2.1
set_option maxRecDepth 100000 in
theorem both_ok {w : World} {a a' : Option Addr} {n c n' c' : Nat} {l l' : List Int} (h : RdS w eInt (.slice a n c) l) (h' : RdS w eInt (.slice a' n' c') l') :
    Calls Tryz.prog 99 #[.slice a n c, .slice a' n' c'] w fun e w' => e = .returned (.bool (vecMay l l.length && vecMay l' l.length)) ∧ w = w' := by
  have h1 := vecMay_ok h n
  have h2 := vecMay_ok h' n
  rw [← h.facts.1]
  generalize vecMay l n = p at h1 ⊢
  generalize vecMay l' n = q at h2 ⊢
  obtain ⟨hn, hc1, hc2, -⟩ := h.facts
  clear h h' hn
  unfold maxLen at hc2
  cases p with
  | false =>
    go_enter Tryz.func99, Tryz.ntmps99
    go_wp2_with (fail)
    refine h1.mono ?_
    rintro e w' ⟨rfl, rfl⟩
    go_wp2_with (fail)
    go_ret
    exact ⟨rfl, rfl⟩
  | true =>
    go_enter Tryz.func99, Tryz.ntmps99
    go_wp2_with (fail)
    refine h1.mono ?_
    rintro e w' ⟨rfl, rfl⟩
    go_wp2_with (fail)
    refine h2.mono ?_
    rintro e w' ⟨rfl, rfl⟩
    go_wp2_with (fail)
    go_ret
    exact ⟨rfl, rfl⟩
theorem under_step {l l' : List Int} {i : Nat} {x y : Int} (h : i < l.length) (h' : i < l'.length) (hx : Hid (x = l[i])) (hy : Hid (y = l'[i])) (hp : ∀ j, j < i → l.getD j 0 ≤ l'.getD j 0) (hxy : x ≤ y) : ∀ j, j < i + 1 → l.getD j 0 ≤ l'.getD j 0 := by
  intro j hj
  rcases Nat.lt_or_ge j i with h1 | h1
  · exact hp j h1
  · obtain rfl : j = i := by omega
    simpa [List.getD, List.getElem?_eq_getElem h, List.getElem?_eq_getElem h', ← hx.out, ← hy.out] using hxy
theorem under_not {l l' : List Int} {i : Nat} {x y : Int} (h : i < l.length) (h' : i < l'.length) (hx : Hid (x = l[i])) (hy : Hid (y = l'[i])) (hxy : y < x) : ¬ ∀ j, j < l.length → l.getD j 0 ≤ l'.getD j 0 := fun e => by
  have := e i h
  simp only [List.getD, List.getElem?_eq_getElem h, List.getElem?_eq_getElem h', ← hx.out, ← hy.out, Option.getD_some] at this
  omega
set_option maxRecDepth 100000 in
theorem under_ok {w : World} {a a' : Option Addr} {n c n' c' : Nat} {l l' : List Int} (h : RdS w eInt (.slice a n c) l) (h' : RdS w eInt (.slice a' n' c') l') :
    Calls Tryz.prog 57 #[.slice a n c, .slice a' n' c'] w fun e w' => e = .returned (.bool (vUnder l l')) ∧ ∃ m, w' = w.drewN m := by
  have hb := both_ok h h'
  obtain ⟨hn, hc1, hc2, -⟩ := h.facts
  obtain ⟨hn', hc1', hc2', -⟩ := h'.facts
  unfold maxLen at hc2 hc2'
  have HN := Lib.hid hn
  have HN' := Lib.hid hn'
  clear hn hn'
  rcases hm : (vecMay l l.length && vecMay l' l.length) with _ | _
  · rw [hm] at hb
    have hr : vUnder l l' = false := by unfold vUnder; rw [hm]; rfl
    rw [hr]
    clear hr hm h h'
    go_enter Tryz.func57, Tryz.ntmps57
    go_wp2_with (fail)
    refine hb.mono ?_
    rintro e w' ⟨rfl, rfl⟩
    go_wp2_with (fail)
    go_ret
    exact ⟨rfl, 0, rfl⟩
  · rw [hm] at hb
    have hr : vUnder l l' = decide (∀ i, i < l.length → l.getD i 0 ≤ l'.getD i 0) := by unfold vUnder; rw [hm]; rfl
    rw [hr]
    have hl : l'.length = l.length := by simp only [Bool.and_eq_true] at hm; have := vecMay_len hm.2; omega
    have HL := Lib.hid hl
    clear hr hm hl
    obtain ⟨B, hB⟩ : ∃ B : Bool, Hid (B = decide (∀ i, i < l.length → l.getD i 0 ≤ l'.getD i 0)) := ⟨_, Lib.hid rfl⟩
    rw [← hB.out]
    go_enter Tryz.func57, Tryz.ntmps57
    go_wp2_with (fail)
    refine hb.mono ?_
    rintro e w' ⟨rfl, rfl⟩
    clear hb
    go_wp2_with (fail)
    go_loopg [12] (n + 1) (fun g iv wr => ∃ (i m : Nat), iv = .int .i64 i ∧ wr = w.drewN m ∧ i ≤ n ∧ g = n - i + 1 ∧ ∀ j, j < i → l.getD j 0 ≤ l'.getD j 0)
    case atStart => exact ⟨0, 0, rfl, rfl, Nat.zero_le _, by omega, fun j hj => by omega⟩
    case round =>
      obtain ⟨i, m, rfl, rfl, hi, hg, hp⟩ := hrel
      have hG := Lib.hid hg
      have hP := Lib.hid hp
      clear hg hp
      by_cases hlt : i < n
      · have l1 : i < l.length := by rw [← HN.out]; exact hlt
        have l2 : i < l'.length := by rw [HL.out]; exact l1
        obtain ⟨b, off, rfl, -, hc⟩ := h.at l1
        obtain ⟨b', off', rfl, -, hc'⟩ := h'.at l2
        have e0 : w.cell? ⟨b, off + i, none⟩ = some (.int .i64 l[i]) := by have := hc 0 _ rfl; rwa [show i * eInt.k + 0 = i from Nat.mul_one i] at this
        have d0 : w.cell? ⟨b', off' + i, none⟩ = some (.int .i64 l'[i]) := by have := hc' 0 _ rfl; rwa [show i * eInt.k + 0 = i from Nat.mul_one i] at this
        have l3 : i < n' := by rw [HN'.out]; exact l2
        clear hc hc' h h'
        obtain ⟨x, hx⟩ : ∃ x, Hid (x = l[i]) := ⟨_, Lib.hid rfl⟩
        obtain ⟨y, hy⟩ : ∃ y, Hid (y = l'[i]) := ⟨_, Lib.hid rfl⟩
        rw [← hx.out] at e0
        rw [← hy.out] at d0
        go_wp2
        refine wp_region_plan [([0, 1, 2, 3, 4, 5, 6, 7, 8], [])] 25 (by kernel_rfl) (by kernel_rfl) (by simp) ?_
        intro N hN
        simp only [wpSegs, List.map_cons, List.map_nil, List.getD_cons_zero, List.getD_cons_succ]
        by_cases hxy : y < x
        · go_wp2
          go_ret
          exact ⟨congrArg (fun b => Ending.returned (Value.bool b)) (by rw [hB.out]; exact dec_f (under_not l1 l2 hx hy hxy)), _, rfl⟩
        · go_wp2
          go_roundg (n - (i + 1) + 1)
          case measure => have := hG.out; omega
          case rel => exact ⟨i + 1, _, by go_num, rfl, by omega, rfl, under_step l1 l2 hx hy hP.out (by omega)⟩
      · have hii : ¬ ((i : Int) < n) := by omega
        go_wp2
        go_ret
        refine ⟨congrArg (fun b => Ending.returned (Value.bool b)) ?_, m, rfl⟩
        rw [hB.out]
        exact dec_t fun j hj => hP.out j (by have := HN.out; omega)
set_option maxRecDepth 100000 in
theorem refVecMay_ok {w : World} {a : Option Addr} {n c : Nat} {l : List Int} (h : RdS w eInt (.slice a n c) l) (k : Int) :
    Calls Tryz.prog 53 #[.slice a n c, .int .i64 k] w fun e w' => e = .returned (.bool (vecMay l k)) ∧ w = w' := by
  obtain ⟨hn, hc1, hc2, -⟩ := h.facts
  unfold maxLen at hc2
  have HN := Lib.hid hn
  clear hn
  obtain ⟨B, hB⟩ : ∃ B : Bool, Hid (B = vecMay l k) := ⟨_, Lib.hid rfl⟩
  rw [← hB.out]
  go_enter Tryz.func53, Tryz.ntmps53
  go_wp2
  go_loopg [5] (n + 1) (fun g iv wr => ∃ i : Nat, iv = .int .i64 i ∧ wr = w ∧ i ≤ n ∧ g = n - i + 1 ∧ ∀ y ∈ l.take i, 0 ≤ y ∧ y ≤ 1048575)
  case atStart => exact ⟨0, rfl, rfl, Nat.zero_le _, by omega, by simp⟩
  case round =>
    obtain ⟨i, rfl, rfl, hi, hg, hp⟩ := hrel
    have hG := Lib.hid hg
    have hP := Lib.hid hp
    clear hg hp
    by_cases hlt : i < n
    · have l1 : i < l.length := by rw [← HN.out]; exact hlt
      obtain ⟨b, off, rfl, hb, hc⟩ := h.at l1
      have e0 : wr.cell? ⟨b, off + i, none⟩ = some (.int .i64 l[i]) := by have := hc 0 _ rfl; rwa [show i * eInt.k + 0 = i from Nat.mul_one i] at this
      clear hc h
      obtain ⟨x, hx⟩ : ∃ x, Hid (x = l[i]) := ⟨_, Lib.hid rfl⟩
      rw [← hx.out] at e0
      by_cases hb1 : x < 0
      · go_wp2
        go_ret
        exact ⟨congrArg (fun b => Ending.returned (Value.bool b)) (by rw [hB.out]; exact dec_f fun e => by have := (e.2.2 _ (List.getElem_mem l1)).1; rw [← hx.out] at this; omega), rfl⟩
      by_cases hb2 : 1048575 < x
      · go_wp2
        go_ret
        exact ⟨congrArg (fun b => Ending.returned (Value.bool b)) (by rw [hB.out]; exact dec_f fun e => by have := (e.2.2 _ (List.getElem_mem l1)).2; rw [← hx.out] at this; omega), rfl⟩
      go_wp2
      go_roundg (n - (i + 1) + 1)
      case measure => have := hG.out; omega
      case rel => exact ⟨i + 1, by go_num, rfl, by omega, rfl, all_step l1 hx hP.out (by omega)⟩
    · have hall : ∀ x ∈ l, 0 ≤ x ∧ x ≤ 1048575 := by
        have := hP.out
        rwa [List.take_of_length_le (by rw [← HN.out]; omega)] at this
      have HA := Lib.hid hall
      clear hall
      go_wp2
      all_goals go_ret
      all_goals refine ⟨congrArg (fun b => Ending.returned (Value.bool b)) ?_, rfl⟩
      all_goals rw [hB.out]
      all_goals unfold vecMay
      all_goals have := HN.out
      all_goals first
        | exact dec_t ⟨by omega, by omega, HA.out⟩
        | exact dec_f fun e => by have := e.1; have := e.2.1; omega
        | exact dec_d ⟨fun e => ⟨by omega, by omega, HA.out⟩, fun e => by have := e.1; have := e.2.1; omega⟩
set_option maxRecDepth 100000 in
theorem refHas_ok {w : World} {a : Option Addr} {n c : Nat} {l : List Int} (h : RdS w eInt (.slice a n c) l) (d : Dt) :
    Calls Tryz.prog 76 #[.slice a n c, .agg #[.int .i64 d.1, .int .i64 d.2]] w fun e w' => e = .returned (.bool (vHas l d)) ∧ Frm No w w' := by
  obtain ⟨hn, hc1, hc2, -⟩ := h.facts
  unfold maxLen at hc2
  have HN := Lib.hid hn
  clear hn
  by_cases h1 : 0 ≤ d.1 ∧ d.1 < n
  case neg =>
    have hv : vHas l d = false := decide_eq_false fun e => h1 ⟨e.1, by have := HN.out; have := e.2.1; omega⟩
    rw [hv]
    clear hv h
    go_enter Tryz.func76, Tryz.ntmps76
    go_wp2
    refine wp_region_plan [([0, 1, 2, 3, 4, 5, 6, 7, 8, 9, 10, 11, 12, 13, 14, 15, 16, 17, 18, 19, 20, 21, 22, 23, 24, 25], [])] 30 (by kernel_rfl) (by kernel_rfl) (by simp) ?_
    intro N hN
    simp only [wpSegs, List.map_cons, List.map_nil, List.getD_cons_zero, List.getD_cons_succ]
    by_cases g1 : 0 ≤ d.1
    · have g2 : ¬ d.1 < n := fun h => h1 ⟨g1, h⟩
      go_wp2
      go_ret
      exact ⟨rfl, ((Frm.refl No w).al _).dr _⟩
    · go_wp2
      go_ret
      exact ⟨rfl, ((Frm.refl No w).al _).dr _⟩
  obtain ⟨g1, g2⟩ := h1
  obtain ⟨k, hk⟩ : ∃ k : Nat, d.1 = k := ⟨d.1.toNat, by omega⟩
  have l1 : k < l.length := by rw [← HN.out]; omega
  obtain ⟨b, off, rfl, hb, hc⟩ := h.at l1
  have e0 : w.cell? ⟨b, off + k, none⟩ = some (.int .i64 l[k]) := by have := hc 0 _ rfl; rwa [show k * eInt.k + 0 = k from Nat.mul_one k] at this
  clear hc h
  obtain ⟨x, hx⟩ : ∃ x, Hid (x = l[k]) := ⟨_, Lib.hid rfl⟩
  rw [← hx.out] at e0
  have hv : vHas l d = decide (1 ≤ d.2 ∧ d.2 ≤ x) := by
    unfold vHas
    rw [hk, hx.out]
    refine decide_eq_decide.2 ⟨fun e => ⟨e.2.2.1, by have := e.2.2.2; simpa [List.getD, List.getElem?_eq_getElem l1] using this⟩, fun e => ⟨by omega, by have := HN.out; omega, e.1, by simpa [List.getD, List.getElem?_eq_getElem l1] using e.2⟩⟩
  rw [hv]
  clear hv
  obtain ⟨d1, d2⟩ := d
  simp only at hk g1 g2 ⊢
  subst hk
  go_enter Tryz.func76, Tryz.ntmps76
  go_wp2
  refine wp_region_plan [([0, 1, 2, 3, 4, 5, 6, 7, 8, 9, 10, 11, 12, 13, 14, 15, 16, 17, 18, 19, 20, 21, 22, 23, 24, 25], [])] 30 (by kernel_rfl) (by kernel_rfl) (by simp) ?_
  intro N hN
  simp only [wpSegs, List.map_cons, List.map_nil, List.getD_cons_zero, List.getD_cons_succ]
  go_wp2
  all_goals go_ret
  all_goals refine ⟨congrArg (fun b => Ending.returned (Value.bool b)) ?_, ((Frm.refl No w).al _).dr _⟩
  all_goals first | exact dec_f (by omega) | exact dec_t (by omega) | exact dec_d (by omega) | (simp; omega)
set_option maxRecDepth 100000 in
theorem refUnder_ok {w : World} {a a' : Option Addr} {n c n' c' : Nat} {l l' : List Int} (h : RdS w eInt (.slice a n c) l) (h' : RdS w eInt (.slice a' n' c') l') :
    Calls Tryz.prog 58 #[.slice a n c, .slice a' n' c'] w fun e w' => e = .returned (.bool (vUnder l l')) ∧ ∃ m, w' = w.drewN m := by
  have h1 := refVecMay_ok h n
  have h2 := refVecMay_ok h' n
  obtain ⟨hn, hc1, hc2, -⟩ := h.facts
  obtain ⟨hn', hc1', hc2', -⟩ := h'.facts
  unfold maxLen at hc2 hc2'
  obtain ⟨B, hB⟩ : ∃ B : Bool, Hid (B = vUnder l l') := ⟨_, Lib.hid rfl⟩
  rw [← hB.out]
  have hv : vUnder l l' = (vecMay l n && vecMay l' n && decide (∀ i, i < l.length → l.getD i 0 ≤ l'.getD i 0)) := by unfold vUnder; rw [hn]
  have HV := Lib.hid hv
  have hlen : vecMay l' n = true → l'.length = n := fun h => by have := vecMay_len h; omega
  have HL := Lib.hid hlen
  have HN := Lib.hid hn
  have HN' := Lib.hid hn'
  clear hn hn' hv hlen
  rcases hp : vecMay l n with _ | _
  · have HP := Lib.hid hp
    rw [hp] at h1
    clear hp h h'
    go_enter Tryz.func58, Tryz.ntmps58
    go_wp2_with (fail)
    refine h1.mono ?_
    rintro e w' ⟨rfl, rfl⟩
    go_wp2_with (fail)
    go_ret
    exact ⟨congrArg (fun b => Ending.returned (Value.bool b)) (by rw [hB.out, HV.out, HP.out]; rfl), 0, rfl⟩
  rcases hq : vecMay l' n with _ | _
  · have HP := Lib.hid hp
    have HQ := Lib.hid hq
    rw [hp] at h1
    rw [hq] at h2
    clear hp hq h h'
    go_enter Tryz.func58, Tryz.ntmps58
    go_wp2_with (fail)
    refine h1.mono ?_
    rintro e w' ⟨rfl, rfl⟩
    go_wp2_with (fail)
    refine h2.mono ?_
    rintro e w' ⟨rfl, rfl⟩
    go_wp2_with (fail)
    go_ret
    exact ⟨congrArg (fun b => Ending.returned (Value.bool b)) (by rw [hB.out, HV.out, HP.out, HQ.out]; rfl), 0, rfl⟩
  have hr : vUnder l l' = decide (∀ i, i < l.length → l.getD i 0 ≤ l'.getD i 0) := by rw [HV.out, hp, hq]; rfl
  have HR := Lib.hid hr
  have hl := HL.out hq
  have HL2 := Lib.hid hl
  rw [hp] at h1
  rw [hq] at h2
  clear hr hp hq hl
  go_enter Tryz.func58, Tryz.ntmps58
  go_wp2_with (fail)
  refine h1.mono ?_
  rintro e w' ⟨rfl, rfl⟩
  go_wp2_with (fail)
  refine h2.mono ?_
  rintro e w' ⟨rfl, rfl⟩
  go_wp2_with (fail)
  clear h1 h2
  go_loopg [5] (n + 1) (fun g iv wr => ∃ (i m : Nat), iv = .int .i64 i ∧ wr = w.drewN m ∧ i ≤ n ∧ g = n - i + 1 ∧ ∀ j, j < i → l.getD j 0 ≤ l'.getD j 0)
  case atStart => exact ⟨0, 0, rfl, rfl, Nat.zero_le _, by omega, fun j hj => by omega⟩
  case round =>
    obtain ⟨i, m, rfl, rfl, hi, hg, hp⟩ := hrel
    have hG := Lib.hid hg
    have hP := Lib.hid hp
    clear hg hp
    by_cases hlt : i < n
    · have l1 : i < l.length := by rw [← HN.out]; exact hlt
      have l2 : i < l'.length := by rw [HL2.out]; exact hlt
      obtain ⟨b, off, rfl, -, hc⟩ := h.at l1
      obtain ⟨b', off', rfl, -, hc'⟩ := h'.at l2
      have e0 : w.cell? ⟨b, off + i, none⟩ = some (.int .i64 l[i]) := by have := hc 0 _ rfl; rwa [show i * eInt.k + 0 = i from Nat.mul_one i] at this
      have d0 : w.cell? ⟨b', off' + i, none⟩ = some (.int .i64 l'[i]) := by have := hc' 0 _ rfl; rwa [show i * eInt.k + 0 = i from Nat.mul_one i] at this
      have l3 : i < n' := by rw [HN'.out]; exact l2
      clear hc hc' h h'
      obtain ⟨x, hx⟩ : ∃ x, Hid (x = l[i]) := ⟨_, Lib.hid rfl⟩
      obtain ⟨y, hy⟩ : ∃ y, Hid (y = l'[i]) := ⟨_, Lib.hid rfl⟩
      rw [← hx.out] at e0
      rw [← hy.out] at d0
      go_wp2
      refine wp_region_plan [([0, 1, 2, 3, 4, 5, 6, 7, 8], [])] 33 (by kernel_rfl) (by kernel_rfl) (by simp) ?_
      intro N hN
      simp only [wpSegs, List.map_cons, List.map_nil, List.getD_cons_zero, List.getD_cons_succ]
      by_cases hxy : y < x
      · go_wp2
        go_ret
        exact ⟨congrArg (fun b => Ending.returned (Value.bool b)) (by rw [hB.out, HR.out]; exact dec_f (under_not l1 l2 hx hy hxy)), _, rfl⟩
      · go_wp2
        go_roundg (n - (i + 1) + 1)
        case measure => have := hG.out; omega
        case rel => exact ⟨i + 1, _, by go_num, rfl, by omega, rfl, under_step l1 l2 hx hy hP.out (by omega)⟩
    · have hii : ¬ ((i : Int) < n) := by omega
      go_wp2
      go_ret
      refine ⟨congrArg (fun b => Ending.returned (Value.bool b)) ?_, m, rfl⟩
      rw [hB.out, HR.out]
      exact dec_t fun j hj => hP.out j (by have := HN.out; omega)
/-- May a stamp be, of so many nodes? -/
def stMay (s : Int × Int) (n : Int) : Bool := decide (1 ≤ s.1 ∧ s.1 ≤ 16777215 ∧ 0 ≤ s.2 ∧ s.2 < n)
set_option maxRecDepth 100000 in
theorem stampMay_ok (s : Int × Int) (n : Int) (w : World) : Calls Tryz.prog 54 #[.agg #[.int .i64 s.1, .int .i64 s.2], .int .i64 n] w fun e w' => e = .returned (.bool (stMay s n)) ∧ Frm No w w' := by
  obtain ⟨B, hB⟩ : ∃ B : Bool, Hid (B = stMay s n) := ⟨_, Lib.hid rfl⟩
  rw [← hB.out]
  go_enter Tryz.func54, Tryz.ntmps54
  go_wp2
  all_goals go_ret
  all_goals refine ⟨congrArg (fun b => Ending.returned (Value.bool b)) ?_, (Frm.refl No w).al _⟩
  all_goals rw [hB.out]
  all_goals unfold stMay
  all_goals first | exact dec_f (by omega) | exact dec_t (by omega) | exact dec_d (by omega)
end Go.Proofs.YtofikfkgiblblaaGreatDoor

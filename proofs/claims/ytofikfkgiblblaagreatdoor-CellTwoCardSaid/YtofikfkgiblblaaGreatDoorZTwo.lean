/- Merged: TwoL TwoG Two0 Two1 Two2 Two2o Two3 Two3o LTwo LTwoR RowCTwo. -/
import Derived.Test.YtofikfkgiblblaaGreatDoorQ16
import Derived.Test.YtofikfkgiblblaaGreatDoorQ26
import Derived.Test.YtofikfkgiblblaaGreatDoorQ40
import Derived.Test.YtofikfkgiblblaaGreatDoorQ42
/- Layer 12, the plain law of CellTwo: two operations of one time leave the same cell in both rows. No program in sight. -/
namespace Go.Proofs.YtofikfkgiblblaaGreatDoor
set_option linter.unusedVariables false
set_option linter.unusedSimpArgs false
set_option linter.unusedVariables false
set_option linter.unusedSimpArgs false
open Go.RowKit Go.Lib Go.Tt Go.Shelf
/-- Two operations behind a third, in both rows. -/
def Two (c : CellV) (z a b : OpV) (d p r q : CellV) : Prop := applyF c z 2 = (d, 0) ∧ applyF d a 2 = (p, 0) ∧ applyF p b 2 = (q, 0) ∧ applyF d b 2 = (r, 0) ∧ applyF r a 2 = (q, 0) ∧ q.seen = [2, 1]
def opZ (k : Int) (v : ByteArray) : OpV := ⟨(0, 1), 1, [0, 0], k, ⟨#[84]⟩, ⟨#[105]⟩, ⟨#[102]⟩, v, (0, 0), (0, 0), []⟩
def opP (k : Int) (v : ByteArray) (n : Int × Int) (r : Dt) : OpV := ⟨(0, 2), 2, [1, 0], k, ⟨#[84]⟩, ⟨#[105]⟩, ⟨#[102]⟩, v, n, r, []⟩
def opQ (k : Int) (v : ByteArray) (n : Int × Int) (r : Dt) (l : List Dt) : OpV := ⟨(1, 1), 2, [1, 0], k, ⟨#[84]⟩, ⟨#[105]⟩, ⟨#[102]⟩, v, n, r, l⟩
theorem apply_of {c : CellV} {o : OpV} {C : CellV} (h1 : cellMay c 2 = true) (h2 : opMay o 2 = true) (h3 : kindOf o = c.kind) (h4 : effF c o = (C, 0)) : applyF c o 2 = ({ C with seen := bump C.seen o.dot }, 0) := by
  unfold applyF
  rw [h1, h2, if_neg (by decide), if_neg (fun h => h h3), h4, if_neg (fun h => h rfl)]
theorem mayZ {k : Int} (hk : k = 0 ∨ k = 2 ∨ k = 4) {v : ByteArray} (hv : v.size ≤ 256) : opMay (opZ k v) 2 = true := by
  rcases hk with rfl | rfl | rfl
  · show (decide (v.size ≤ 256) && true) = true; rw [decide_eq_true hv]; rfl
  · show (decide (v.size ≤ 256) && true) = true; rw [decide_eq_true hv]; rfl
  · show ((decide (v.size ≤ 256) && true) && true) = true; rw [decide_eq_true hv]; rfl
theorem mayP {k : Int} (hk : k = 0 ∨ k = 2 ∨ k = 4) {v : ByteArray} (hv : v.size ≤ 256) : opMay (opP k v (0, 0) (0, 0)) 2 = true := by
  rcases hk with rfl | rfl | rfl
  · show (decide (v.size ≤ 256) && true) = true; rw [decide_eq_true hv]; rfl
  · show (decide (v.size ≤ 256) && true) = true; rw [decide_eq_true hv]; rfl
  · show ((decide (v.size ≤ 256) && true) && true) = true; rw [decide_eq_true hv]; rfl
theorem mayQ {k : Int} (hk : k = 0 ∨ k = 2 ∨ k = 4) {v : ByteArray} (hv : v.size ≤ 256) : opMay (opQ k v (0, 0) (0, 0) []) 2 = true := by
  rcases hk with rfl | rfl | rfl
  · show (decide (v.size ≤ 256) && true) = true; rw [decide_eq_true hv]; rfl
  · show (decide (v.size ≤ 256) && true) = true; rw [decide_eq_true hv]; rfl
  · show ((decide (v.size ≤ 256) && true) && true) = true; rw [decide_eq_true hv]; rfl
def c0 (t : Dt) (v : ByteArray) (s : List Int) : CellV := ⟨0, true, t, v, (0, 0), [], [], s⟩
theorem may0 {t : Dt} {v : ByteArray} {s : List Int} (hs : vecMay s 2 = true) (ht : (1 ≤ t.1 ∧ t.1 ≤ 16777215) ∧ 0 ≤ t.2 ∧ t.2 < 2) (hv : v.size ≤ 256) : cellMay (c0 t v s) 2 = true := by
  unfold cellMay
  show (vecMay s 2 && (bareC (c0 t v s) && setMay (c0 t v s) 2)) = true
  rw [hs]
  have h1 : bareC (c0 t v s) = true := decide_eq_true ⟨.inl rfl, .inr ⟨rfl, rfl⟩, .inr rfl, .inr rfl⟩
  have h2 : setMay (c0 t v s) 2 = true := by
    unfold setMay
    rw [if_neg (show ¬ (c0 t v s).set = false from fun h => by cases h)]
    exact decide_eq_true ⟨ht.1, ht.2.1, ht.2.2, hv⟩
  rw [h1, h2]; rfl
theorem two0 {v w : ByteArray} (hv : v.size ≤ 256) (hw : w.size ≤ 256) : Two (newC 0 2) (opZ 0 v) (opP 0 w (0, 0) (0, 0)) (opQ 0 v (0, 0) (0, 0) []) (c0 (1, 0) v [1, 0]) (c0 (2, 0) w [2, 0]) (c0 (2, 1) v [1, 1]) (c0 (2, 1) v [2, 1]) := by
  refine ⟨?_, ?_, ?_, ?_, ?_, rfl⟩
  · exact apply_of (C := c0 (1, 0) v [0, 0]) (by rfl) (mayZ (.inl rfl) hv) rfl rfl
  · exact apply_of (C := c0 (2, 0) w [1, 0]) (may0 (t := (1, 0)) rfl (by decide) hv) (mayP (.inl rfl) hw) rfl rfl
  · exact apply_of (C := c0 (2, 1) v [2, 0]) (may0 (t := (2, 0)) rfl (by decide) hw) (mayQ (.inl rfl) hv) rfl rfl
  · exact apply_of (C := c0 (2, 1) v [1, 0]) (may0 (t := (1, 0)) rfl (by decide) hv) (mayQ (.inl rfl) hv) rfl rfl
  · exact apply_of (C := c0 (2, 1) v [1, 1]) (may0 (t := (2, 1)) rfl (by decide) hv) (mayP (.inl rfl) hw) rfl rfl
def c1 (n : Int × Int) (s : List Int) : CellV := ⟨1, false, (0, 0), ⟨#[]⟩, n, [], [], s⟩
theorem may1 {n : Int × Int} {s : List Int} (hs : vecMay s 2 = true) (hn : pairMay n = true) : cellMay (c1 n s) 2 = true := by
  show (vecMay s 2 && (bareC (c1 n s) && pairMay n)) = true
  have h1 : bareC (c1 n s) = true := decide_eq_true ⟨.inr ⟨rfl, rfl, rfl, rfl⟩, .inl rfl, .inr rfl, .inr rfl⟩
  rw [hs, h1, hn]; rfl
theorem opMay1P {y : Int} (hy : 0 ≤ y ∧ y ≤ 1023) : opMay (opP 1 ⟨#[]⟩ (y, 0) (0, 0)) 2 = true := by
  show (numMay (y, 0) && opBare (opP 1 ⟨#[]⟩ (y, 0) (0, 0))) = true
  have h1 : numMay (y, 0) = true := decide_eq_true ⟨⟨by show -1099511627776 ≤ y; omega, by show y ≤ 1099511627776; omega⟩, by show -1099511627776 ≤ (0 : Int); omega, by show (0 : Int) ≤ 1099511627776; omega⟩
  have h2 : opBare (opP 1 ⟨#[]⟩ (y, 0) (0, 0)) = true := decide_eq_true ⟨.inr rfl, .inl rfl, .inr ⟨rfl, rfl⟩, .inr rfl⟩
  rw [h1, h2]; rfl
theorem opMay1Q {y : Int} (hy : 0 ≤ y ∧ y ≤ 1023) : opMay (opQ 1 ⟨#[]⟩ (0, -y) (0, 0) []) 2 = true := by
  show (numMay (0, -y) && opBare (opQ 1 ⟨#[]⟩ (0, -y) (0, 0) [])) = true
  have h1 : numMay (0, -y) = true := decide_eq_true ⟨⟨by show -1099511627776 ≤ (0 : Int); omega, by show (0 : Int) ≤ 1099511627776; omega⟩, by show -1099511627776 ≤ -y; omega, by show -y ≤ 1099511627776; omega⟩
  have h2 : opBare (opQ 1 ⟨#[]⟩ (0, -y) (0, 0) []) = true := decide_eq_true ⟨.inr rfl, .inl rfl, .inr ⟨rfl, rfl⟩, .inr rfl⟩
  rw [h1, h2]; rfl
theorem pair_of {a b : Int} (h : -2000 ≤ a ∧ a ≤ 2000 ∧ -2000 ≤ b ∧ b ≤ 2000) : pairMay (a, b) = true := decide_eq_true ⟨⟨by show -4503599627370496 ≤ a; omega, by show a ≤ 4503599627370496; omega⟩, by show -4503599627370496 ≤ b; omega, by show b ≤ 4503599627370496; omega⟩
theorem eff1 {n m : Int × Int} {s : List Int} {o : OpV} (hk : o.kind = 1) (hm : o.num = m) (h1 : pairMay n = true) (h2 : pairMay m = true) (h3 : pairMay (n.1 + m.1, n.2 + m.2) = true) : effF (c1 n s) o = (c1 (n.1 + m.1, n.2 + m.2) s, 0) := by
  unfold effF
  rw [hk, if_neg (by decide), if_pos rfl, hm]
  unfold addF
  have ha : addPair (c1 n s).num m = ((n.1 + m.1, n.2 + m.2), 0) := by unfold addPair; exact if_pos ⟨h1, h2, h3⟩
  rw [ha]
  rfl
theorem two1 {y : Int} (hy : 0 ≤ y ∧ y ≤ 1023) : Two (newC 1 2) (opZ 1 ⟨#[]⟩) (opP 1 ⟨#[]⟩ (y, 0) (0, 0)) (opQ 1 ⟨#[]⟩ (0, -y) (0, 0) []) (c1 (0, 0) [1, 0]) (c1 (y, 0) [2, 0]) (c1 (0, -y) [1, 1]) (c1 (y, -y) [2, 1]) := by
  have e1 : ∀ a : Int, a + 0 = a := fun a => Int.add_zero a
  have e2 : ∀ a : Int, 0 + a = a := fun a => Int.zero_add a
  refine ⟨?_, ?_, ?_, ?_, ?_, rfl⟩
  · exact apply_of (C := c1 (0, 0) [0, 0]) (by rfl) (by rfl) rfl (eff1 (n := (0, 0)) (m := (0, 0)) rfl rfl rfl rfl rfl)
  · have h := eff1 (n := (0, 0)) (m := (y, 0)) (s := [1, 0]) (o := opP 1 ⟨#[]⟩ (y, 0) (0, 0)) rfl rfl rfl (pair_of (by omega)) (pair_of (by simp only [e1, e2]; omega))
    simp only [e1, e2] at h
    exact apply_of (may1 rfl rfl) (opMay1P hy) rfl h
  · have h := eff1 (n := (y, 0)) (m := (0, -y)) (s := [2, 0]) (o := opQ 1 ⟨#[]⟩ (0, -y) (0, 0) []) rfl rfl (pair_of (by omega)) (pair_of (by omega)) (pair_of (by simp only [e1, e2]; omega))
    simp only [e1, e2] at h
    exact apply_of (may1 rfl (pair_of (by omega))) (opMay1Q hy) rfl h
  · have h := eff1 (n := (0, 0)) (m := (0, -y)) (s := [1, 0]) (o := opQ 1 ⟨#[]⟩ (0, -y) (0, 0) []) rfl rfl rfl (pair_of (by omega)) (pair_of (by simp only [e1, e2]; omega))
    simp only [e1, e2] at h
    exact apply_of (may1 rfl rfl) (opMay1Q hy) rfl h
  · have h := eff1 (n := (0, -y)) (m := (y, 0)) (s := [1, 1]) (o := opP 1 ⟨#[]⟩ (y, 0) (0, 0)) rfl rfl (pair_of (by omega)) (pair_of (by omega)) (pair_of (by simp only [e1, e2]; omega))
    simp only [e1, e2] at h
    exact apply_of (may1 rfl (pair_of (by omega))) (opMay1P hy) rfl h
def c2 (l : List En) (s : List Int) : CellV := ⟨2, false, (0, 0), ⟨#[]⟩, (0, 0), l, [], s⟩
theorem may2 {l : List En} {s : List Int} (hs : vecMay s 2 = true) (h : entsRow (c2 l s) l.length) : cellMay (c2 l s) 2 = true := by
  show (vecMay s 2 && (bareC (c2 l s) && entsMay (c2 l s))) = true
  have h1 : bareC (c2 l s) = true := decide_eq_true ⟨.inr ⟨rfl, rfl, rfl, rfl⟩, .inr ⟨rfl, rfl⟩, .inl rfl, .inr rfl⟩
  have h2 : entsMay (c2 l s) = true := decide_eq_true h
  rw [hs, h1, h2]; rfl
theorem row0 (s : List Int) : entsRow (c2 [] s) 0 := fun j hj => absurd hj (Nat.not_lt_zero j)
theorem row1 {e : En} {s : List Int} (h1 : vHas s (eDot e) = true) (h2 : e.2.2.size ≤ 256) : entsRow (c2 [e] s) 1 := fun j hj => by
  obtain rfl : j = 0 := by omega
  exact ⟨h1, h2, fun h => absurd h (by omega)⟩
theorem row2 {e f : En} {s : List Int} (h1 : vHas s (eDot e) = true) (h2 : e.2.2.size ≤ 256) (h3 : vHas s (eDot f) = true) (h4 : f.2.2.size ≤ 256) (h5 : dotLess (eDot e) (eDot f) = true) : entsRow (c2 [e, f] s) 2 := fun j hj => by
  rcases (show j = 0 ∨ j = 1 by omega) with rfl | rfl
  · exact ⟨h1, h2, fun h => absurd h (by omega)⟩
  · exact ⟨h3, h4, fun _ => h5⟩
theorem two2 {v w : ByteArray} (hv : v.size ≤ 256) (hw : w.size ≤ 256) : Two (newC 2 2) (opZ 2 v) (opP 2 w (0, 0) (0, 0)) (opQ 2 v (0, 0) (0, 0) []) (c2 [(0, 1, v)] [1, 0]) (c2 [(0, 1, v), (0, 2, w)] [2, 0]) (c2 [(0, 1, v), (1, 1, v)] [1, 1]) (c2 [(0, 1, v), (0, 2, w), (1, 1, v)] [2, 1]) := by
  refine ⟨?_, ?_, ?_, ?_, ?_, rfl⟩
  · exact apply_of (C := c2 [(0, 1, v)] [0, 0]) (by rfl) (mayZ (.inr (.inl rfl)) hv) rfl rfl
  · exact apply_of (C := c2 [(0, 1, v), (0, 2, w)] [1, 0]) (may2 rfl (row1 rfl hv)) (mayP (.inr (.inl rfl)) hw) rfl rfl
  · exact apply_of (C := c2 [(0, 1, v), (0, 2, w), (1, 1, v)] [2, 0]) (may2 rfl (row2 rfl hv rfl hw rfl)) (mayQ (.inr (.inl rfl)) hv) rfl rfl
  · exact apply_of (C := c2 [(0, 1, v), (1, 1, v)] [1, 0]) (may2 rfl (row1 rfl hv)) (mayQ (.inr (.inl rfl)) hv) rfl rfl
  · exact apply_of (C := c2 [(0, 1, v), (0, 2, w), (1, 1, v)] [1, 1]) (may2 rfl (row2 rfl hv rfl hv rfl)) (mayP (.inr (.inl rfl)) hw) rfl rfl
theorem two2' {v w : ByteArray} (hv : v.size ≤ 256) (hw : w.size ≤ 256) : Two (newC 2 2) (opZ 2 v) (opP 2 w (0, 0) (0, 0)) (opQ 3 ⟨#[]⟩ (0, 0) (0, 0) [(0, 1)]) (c2 [(0, 1, v)] [1, 0]) (c2 [(0, 1, v), (0, 2, w)] [2, 0]) (c2 [] [1, 1]) (c2 [(0, 2, w)] [2, 1]) := by
  refine ⟨?_, ?_, ?_, ?_, ?_, rfl⟩
  · exact apply_of (C := c2 [(0, 1, v)] [0, 0]) (by rfl) (mayZ (.inr (.inl rfl)) hv) rfl rfl
  · exact apply_of (C := c2 [(0, 1, v), (0, 2, w)] [1, 0]) (may2 rfl (row1 rfl hv)) (mayP (.inr (.inl rfl)) hw) rfl rfl
  · exact apply_of (C := c2 [(0, 2, w)] [2, 0]) (may2 rfl (row2 rfl hv rfl hw rfl)) (by rfl) rfl rfl
  · exact apply_of (C := c2 [] [1, 0]) (may2 rfl (row1 rfl hv)) (by rfl) rfl rfl
  · exact apply_of (C := c2 [(0, 2, w)] [1, 1]) (may2 rfl (row0 _)) (mayP (.inr (.inl rfl)) hw) rfl rfl
def c3 (l : List El) (s : List Int) : CellV := ⟨3, false, (0, 0), ⟨#[]⟩, (0, 0), [], l, s⟩
theorem may3 {l : List El} {s : List Int} (hs : vecMay s 2 = true) (h : elsRow (c3 l s) l.length) : cellMay (c3 l s) 2 = true := by
  show (vecMay s 2 && (bareC (c3 l s) && elsMay (c3 l s))) = true
  have h1 : bareC (c3 l s) = true := decide_eq_true ⟨.inr ⟨rfl, rfl, rfl, rfl⟩, .inr ⟨rfl, rfl⟩, .inr rfl, .inl rfl⟩
  have h2 : elsMay (c3 l s) = true := decide_eq_true h
  rw [hs, h1, h2]; rfl
def elOk (s : List Int) (e : El) : Prop := vHas s (elDot e) = true ∧ timeMay e.2.2.1 = true ∧ e.2.2.2.1.size ≤ 256 ∧ (e.2.2.2.2 = true → e.2.2.2.1.size = 0)
theorem els1 {e : El} {s : List Int} (h : elOk s e) : elsRow (c3 [e] s) 1 := fun j hj => by
  obtain rfl : j = 0 := by omega
  exact ⟨(fun h => by cases h), h⟩
theorem els2 {e f : El} {s : List Int} (h : elOk s e) (h' : elOk s f) (hn : elDot f ∉ [elDot e]) : elsRow (c3 [e, f] s) 2 := fun j hj => by
  rcases (show j = 0 ∨ j = 1 by omega) with rfl | rfl
  · exact ⟨(fun h => by cases h), h⟩
  · exact ⟨hn, h'⟩
theorem mayR {v : ByteArray} (hv : v.size ≤ 256) : opMay (opP 4 v (0, 0) (0, 1)) 2 = true := by
  show ((decide (v.size ≤ 256) && true) && true) = true; rw [decide_eq_true hv]; rfl
theorem two3 {v w : ByteArray} (hv : v.size ≤ 256) (hw : w.size ≤ 256) : Two (newC 3 2) (opZ 4 v) (opP 4 w (0, 0) (0, 0)) (opQ 4 v (0, 0) (0, 0) []) (c3 [(0, 1, 1, v, false)] [1, 0]) (c3 [(0, 2, 2, w, false), (0, 1, 1, v, false)] [2, 0]) (c3 [(1, 1, 2, v, false), (0, 1, 1, v, false)] [1, 1]) (c3 [(1, 1, 2, v, false), (0, 2, 2, w, false), (0, 1, 1, v, false)] [2, 1]) := by
  have f : false = true → v.size = 0 := fun h => by cases h
  have g : false = true → w.size = 0 := fun h => by cases h
  refine ⟨?_, ?_, ?_, ?_, ?_, rfl⟩
  · exact apply_of (C := c3 [(0, 1, 1, v, false)] [0, 0]) (by rfl) (mayZ (.inr (.inr rfl)) hv) rfl rfl
  · exact apply_of (C := c3 [(0, 2, 2, w, false), (0, 1, 1, v, false)] [1, 0]) (may3 rfl (els1 ⟨rfl, rfl, hv, f⟩)) (mayP (.inr (.inr rfl)) hw) rfl rfl
  · exact apply_of (C := c3 [(1, 1, 2, v, false), (0, 2, 2, w, false), (0, 1, 1, v, false)] [2, 0]) (may3 rfl (els2 ⟨rfl, rfl, hw, g⟩ ⟨rfl, rfl, hv, f⟩ (show ((0, 1) : Dt) ∉ [(0, 2)] by decide))) (mayQ (.inr (.inr rfl)) hv) rfl rfl
  · exact apply_of (C := c3 [(1, 1, 2, v, false), (0, 1, 1, v, false)] [1, 0]) (may3 rfl (els1 ⟨rfl, rfl, hv, f⟩)) (mayQ (.inr (.inr rfl)) hv) rfl rfl
  · exact apply_of (C := c3 [(1, 1, 2, v, false), (0, 2, 2, w, false), (0, 1, 1, v, false)] [1, 1]) (may3 rfl (els2 ⟨rfl, rfl, hv, f⟩ ⟨rfl, rfl, hv, f⟩ (show ((0, 1) : Dt) ∉ [(1, 1)] by decide))) (mayP (.inr (.inr rfl)) hw) rfl rfl
theorem two3' {v w : ByteArray} (hv : v.size ≤ 256) (hw : w.size ≤ 256) : Two (newC 3 2) (opZ 4 v) (opP 4 w (0, 0) (0, 1)) (opQ 5 ⟨#[]⟩ (0, 0) (0, 1) []) (c3 [(0, 1, 1, v, false)] [1, 0]) (c3 [(0, 1, 1, v, false), (0, 2, 2, w, false)] [2, 0]) (c3 [(0, 1, 1, ⟨#[]⟩, true)] [1, 1]) (c3 [(0, 1, 1, ⟨#[]⟩, true), (0, 2, 2, w, false)] [2, 1]) := by
  have f : false = true → v.size = 0 := fun h => by cases h
  have g : false = true → w.size = 0 := fun h => by cases h
  refine ⟨?_, ?_, ?_, ?_, ?_, rfl⟩
  · exact apply_of (C := c3 [(0, 1, 1, v, false)] [0, 0]) (by rfl) (mayZ (.inr (.inr rfl)) hv) rfl rfl
  · exact apply_of (C := c3 [(0, 1, 1, v, false), (0, 2, 2, w, false)] [1, 0]) (may3 rfl (els1 ⟨rfl, rfl, hv, f⟩)) (mayR hw) rfl rfl
  · exact apply_of (C := c3 [(0, 1, 1, ⟨#[]⟩, true), (0, 2, 2, w, false)] [2, 0]) (may3 rfl (els2 ⟨rfl, rfl, hv, f⟩ ⟨rfl, rfl, hw, g⟩ (show ((0, 2) : Dt) ∉ [(0, 1)] by decide))) (by rfl) rfl rfl
  · exact apply_of (C := c3 [(0, 1, 1, ⟨#[]⟩, true)] [1, 0]) (may3 rfl (els1 ⟨rfl, rfl, hv, f⟩)) (by rfl) rfl rfl
  · exact apply_of (C := c3 [(0, 1, 1, ⟨#[]⟩, true), (0, 2, 2, w, false)] [1, 1]) (may3 rfl (els1 ⟨rfl, rfl, (by show 0 ≤ 256; omega), fun _ => rfl⟩)) (mayR hw) rfl rfl
end Go.Proofs.YtofikfkgiblblaaGreatDoor

/- CellTwo: contracts in plain words. -/
namespace Go.Proofs.YtofikfkgiblblaaGreatDoor
set_option linter.unusedVariables false
set_option linter.unusedSimpArgs false
open Go.RowKit Go.Lib Go.Tt Go.Shelf
theorem new_gen {k : Int} {C : CellV} {F : Value → Value → Value → Value} {e l s : Nat} (hN : newF k 2 = (C, 0)) (hF : ∀ x y z, cval C x y z = F x y z) (he : C.ents.length = e) (hl : C.elems.length = l) (hs : C.seen.length = s) (w : World) :
    Calls Tryz.prog 13 #[.int .i64 k, .int .i64 2] w fun en w' => ∃ a1 n1 a2 n2 a3 n3, en = .returned (.tuple #[F (.slice a1 e n1) (.slice a2 l n2) (.slice a3 s n3), .int .i64 0]) ∧ CellR w' C (.slice a1 e n1) (.slice a2 l n2) (.slice a3 s n3) ∧ Frm No w w' := by
  have h := cellNew_ok k 2 w
  rw [hN] at h
  refine h.mono ?_
  rintro en w' ⟨ve, vl, vs, rfl, o, f⟩
  obtain ⟨a1, c1, rfl⟩ := o.e.sh
  obtain ⟨a2, c2, rfl⟩ := o.l.sh
  obtain ⟨a3, c3, rfl⟩ := o.s.sh
  subst he hl hs
  exact ⟨a1, c1, a2, c2, a3, c3, by rw [hF], o.rd, f⟩
theorem apply_gen {c C : CellV} {o : OpV} {F : Value → Value → Value → Value} {e l s : Nat} (hA : applyF c o 2 = (C, 0)) (hF : ∀ x y z, cval C x y z = F x y z) (he : C.ents.length = e) (hl : C.elems.length = l) (hs : C.seen.length = s)
    {w : World} {ve vl vs vd vo : Value} (h : CellR w c ve vl vs) (hb : CellB c) (hz : CellZ c) (hO : OpR w o vd vo) (hob : OpB o) :
    Calls Tryz.prog 11 #[cval c ve vl vs, opval o vd vo, .int .i64 2] w fun en w' => ∃ a1 n1 a2 n2 a3 n3, en = .returned (.tuple #[F (.slice a1 e n1) (.slice a2 l n2) (.slice a3 s n3), .int .i64 0]) ∧ CellO w' (Nw No w w') C (.slice a1 e n1) (.slice a2 l n2) (.slice a3 s n3) ∧ Frm No w w' := by
  have h := apply_ok h hb hz hO hob 2
  rw [hA] at h
  refine h.mono ?_
  rintro en w' ⟨ve, vl, vs, rfl, o, f⟩
  obtain ⟨a1, c1, rfl⟩ := o.e.sh
  obtain ⟨a2, c2, rfl⟩ := o.l.sh
  obtain ⟨a3, c3, rfl⟩ := o.s.sh
  subst he hl hs
  exact ⟨a1, c1, a2, c2, a3, c3, by rw [hF], o, f⟩
theorem small_of {n : Nat} (h : n ≤ 256) : n ≤ 2 ^ 63 - 1 := by omega
theorem opB_of {o : OpV} (h1 : o.type.size ≤ 256) (h2 : o.id.size ≤ 256) (h3 : o.field.size ≤ 256) (h4 : o.value.size ≤ 256) : OpB o := ⟨by omega, by omega, by omega, by omega⟩
end Go.Proofs.YtofikfkgiblblaaGreatDoor

/- tattlelaw12.CellTwo, one of its six ways. -/
namespace Go.Proofs.YtofikfkgiblblaaGreatDoor
set_option linter.unusedVariables false
set_option linter.unusedSimpArgs false
open Go.RowKit Go.Lib Go.Tt Go.Shelf
set_option maxHeartbeats 8000000 in
set_option maxRecDepth 100000 in
theorem ltwo0 {w0 : World} (tab : Tab w0) (kind x : Int) (hk : (IntKind.u64.wrap kind).tmod 4 = 0) {v w : ByteArray} (hv : v.size ≤ 256) (hw : w.size ≤ 256) :
    Calls Tryz.prog 8 #[.int .i64 kind, .string v, .string w, .int .i64 x] w0 fun e w' => e = .returned (.bool true) ∧ Frm No w0 w' := by
  obtain ⟨T1, T2, T3, T4, T5, T6⟩ := two0 hv hw
  replace T1 := Lib.hid T1
  replace T2 := Lib.hid T2
  replace T3 := Lib.hid T3
  replace T4 := Lib.hid T4
  replace T5 := Lib.hid T5
  clear T6
  have HV := Lib.hid hv
  have HW := Lib.hid hw
  have g1 : ¬ (256 < (v.size : Int)) := by omega
  have g2 : ¬ (256 < (w.size : Int)) := by omega
  have HA := Lib.hid (awake_ok tab)
  clear hv hw tab
  go_enter Tryz.func8, Tryz.ntmps8
  go_wp2_with (fail)
  refine HA.out.mono ?_
  rintro e w1 ⟨rfl, F1⟩
  clear HA
  go_wp2_with (fail)
  refine (new_gen (F := (fun x1 x2 x3 => .agg #[.int .i64 0, .bool false, .int .i64 0, .int .i64 0, .string ⟨#[]⟩, .int .i64 0, .int .i64 0, x1, x2, x3])) (show newF 0 2 = (newC 0 2, 0) from rfl) (fun _ _ _ => rfl) (e := 0) (l := 0) (s := 2) rfl rfl rfl w1).mono ?_
  rintro e w2 ⟨a1, a1n, a2, a2n, a3, a3n, rfl, r2, f2⟩
  have F2 := F1.trans f2
  clear F1 f2
  go_wp2_with (fail)
  have FX : Frm No w2 ((((w2.alloc (.cells #[.int .i64 0, .bool false, .int .i64 0, .int .i64 0, .string ⟨#[]⟩, .int .i64 0, .int .i64 0, .slice a1 0 a1n, .slice a2 0 a2n, .slice a3 2 a3n] 30 (0, 0))).alloc (.cells #[.int .i64 0, .int .i64 0] 3 (0, 0))).alloc (.cells #[.int .i64 0, .int .i64 1, .int .i64 2, .int .i64 4] 3 (0, 0))).alloc (.cells #[.int .i64 0, .int .i64 1, .int .i64 1, .slice (some ⟨w2.heap.size + 1, 0, none⟩) 2 2, .int .i64 0, .string ⟨#[84]⟩, .string ⟨#[105]⟩, .string ⟨#[102]⟩, .string v, .int .i64 0, .int .i64 0, .int .i64 0, .int .i64 0, .slice none 0 0] 35 (0, 0))) := ((((Frm.refl No w2).al _).al _).al _).al _
  have ZX : ((((w2.alloc (.cells #[.int .i64 0, .bool false, .int .i64 0, .int .i64 0, .string ⟨#[]⟩, .int .i64 0, .int .i64 0, .slice a1 0 a1n, .slice a2 0 a2n, .slice a3 2 a3n] 30 (0, 0))).alloc (.cells #[.int .i64 0, .int .i64 0] 3 (0, 0))).alloc (.cells #[.int .i64 0, .int .i64 1, .int .i64 2, .int .i64 4] 3 (0, 0))).alloc (.cells #[.int .i64 0, .int .i64 1, .int .i64 1, .slice (some ⟨w2.heap.size + 1, 0, none⟩) 2 2, .int .i64 0, .string ⟨#[84]⟩, .string ⟨#[105]⟩, .string ⟨#[102]⟩, .string v, .int .i64 0, .int .i64 0, .int .i64 0, .int .i64 0, .slice none 0 0] 35 (0, 0))).heap[w2.heap.size + 1 + 1 + 1]? = some (.cells #[.int .i64 0, .int .i64 1, .int .i64 1, .slice (some ⟨w2.heap.size + 1, 0, none⟩) 2 2, .int .i64 0, .string ⟨#[84]⟩, .string ⟨#[105]⟩, .string ⟨#[102]⟩, .string v, .int .i64 0, .int .i64 0, .int .i64 0, .int .i64 0, .slice none 0 0] 35 (0, 0)) := al_at (by simp)
  have LX : ((((w2.alloc (.cells #[.int .i64 0, .bool false, .int .i64 0, .int .i64 0, .string ⟨#[]⟩, .int .i64 0, .int .i64 0, .slice a1 0 a1n, .slice a2 0 a2n, .slice a3 2 a3n] 30 (0, 0))).alloc (.cells #[.int .i64 0, .int .i64 0] 3 (0, 0))).alloc (.cells #[.int .i64 0, .int .i64 1, .int .i64 2, .int .i64 4] 3 (0, 0))).alloc (.cells #[.int .i64 0, .int .i64 1, .int .i64 1, .slice (some ⟨w2.heap.size + 1, 0, none⟩) 2 2, .int .i64 0, .string ⟨#[84]⟩, .string ⟨#[105]⟩, .string ⟨#[102]⟩, .string v, .int .i64 0, .int .i64 0, .int .i64 0, .int .i64 0, .slice none 0 0] 35 (0, 0))).heap[w2.heap.size + 1]? = some (.cells #[.int .i64 0, .int .i64 0] 3 (0, 0)) := al_old (al_old (al_at (by simp)))
  have zX : ((((w2.alloc (.cells #[.int .i64 0, .bool false, .int .i64 0, .int .i64 0, .string ⟨#[]⟩, .int .i64 0, .int .i64 0, .slice a1 0 a1n, .slice a2 0 a2n, .slice a3 2 a3n] 30 (0, 0))).alloc (.cells #[.int .i64 0, .int .i64 0] 3 (0, 0))).alloc (.cells #[.int .i64 0, .int .i64 1, .int .i64 2, .int .i64 4] 3 (0, 0))).alloc (.cells #[.int .i64 0, .int .i64 1, .int .i64 1, .slice (some ⟨w2.heap.size + 1, 0, none⟩) 2 2, .int .i64 0, .string ⟨#[84]⟩, .string ⟨#[105]⟩, .string ⟨#[102]⟩, .string v, .int .i64 0, .int .i64 0, .int .i64 0, .int .i64 0, .slice none 0 0] 35 (0, 0))).heap.size = w2.heap.size + 1 + 1 + 1 + 1 := by simp
  have R2 := r2.no FX
  have FX := F2.trans FX
  clear r2 F2
  revert FX ZX LX zX R2
  generalize ((((w2.alloc (.cells #[.int .i64 0, .bool false, .int .i64 0, .int .i64 0, .string ⟨#[]⟩, .int .i64 0, .int .i64 0, .slice a1 0 a1n, .slice a2 0 a2n, .slice a3 2 a3n] 30 (0, 0))).alloc (.cells #[.int .i64 0, .int .i64 0] 3 (0, 0))).alloc (.cells #[.int .i64 0, .int .i64 1, .int .i64 2, .int .i64 4] 3 (0, 0))).alloc (.cells #[.int .i64 0, .int .i64 1, .int .i64 1, .slice (some ⟨w2.heap.size + 1, 0, none⟩) 2 2, .int .i64 0, .string ⟨#[84]⟩, .string ⟨#[105]⟩, .string ⟨#[102]⟩, .string v, .int .i64 0, .int .i64 0, .int .i64 0, .int .i64 0, .slice none 0 0] 35 (0, 0))) = X
  intro ZX LX zX R2 FX
  have DX : Ow X (fun k => k = w2.heap.size + 1) 3 eInt (.slice (some ⟨w2.heap.size + 1, 0, none⟩) 2 2) [0, 0] := Ow.row (l := [0, 0]) (c := 2) LX rfl (by decide) (by decide) rfl rfl
  refine (apply_gen T1.out (F := (fun x1 x2 x3 => .agg #[.int .i64 0, .bool true, .int .i64 1, .int .i64 0, .string v, .int .i64 0, .int .i64 0, x1, x2, x3])) (fun _ _ _ => rfl) (e := 0) (l := 0) (s := 2) rfl rfl rfl R2 ⟨(by show 0 * 32 ≤ _; unfold reachBytes; omega), (by show 0 * 48 ≤ _; unfold reachBytes; omega), (by show 2 * 8 ≤ _; unfold reachBytes; omega)⟩ ⟨(by show 0 ≤ _; omega), (fun x hx => by cases hx), (fun x hx => by cases hx)⟩ ⟨DX.rd, RdS.nil _ _⟩ (opB_of (by show 1 ≤ 256; omega) (by show 1 ≤ 256; omega) (by show 1 ≤ 256; omega) HV.out)).mono ?_
  rintro e w3 ⟨d1, d1n, d2, d2n, d3, d3n, rfl, o3, f3⟩
  have F3 := FX.trans f3
  have Z3 := f3.obj ZX id
  have RD := o3.rd
  clear T1 FX ZX LX zX R2 DX o3 f3
  have n3 := lt_of_block Z3
  have n3a : w2.heap.size + 1 + 1 + 1 < w3.heap.size + 1 := by omega
  have n3b : w2.heap.size + 1 + 1 + 1 < w3.heap.size + 1 + 1 := by omega
  have n3c : w2.heap.size + 1 + 1 + 1 < w3.heap.size + 1 + 1 + 1 := by omega
  have n3d : w2.heap.size + 1 + 1 + 1 < w3.heap.size + 1 + 1 + 1 + 1 := by omega
  obtain ⟨t0, t1, t2, t3, t4, t5, t6, t7, t8, t9, t10, t11, t12, t13⟩ := obj14 Z3
  go_wp2_with (fail)

  have FY0 : Frm No w3 (((((w3.alloc (.cells #[.int .i64 0, .bool true, .int .i64 1, .int .i64 0, .string v, .int .i64 0, .int .i64 0, .slice d1 0 d1n, .slice d2 0 d2n, .slice d3 2 d3n] 30 (0, 0))).alloc (.cells #[.int .i64 1, .int .i64 0] 3 (0, 0))).alloc (.cells #[.int .i64 0, .int .i64 2, .int .i64 2, .slice (some ⟨w3.heap.size + 1, 0, none⟩) 2 2, .int .i64 0, .string ⟨#[84]⟩, .string ⟨#[105]⟩, .string ⟨#[102]⟩, .string w, .int .i64 0, .int .i64 0, .int .i64 0, .int .i64 0, .slice none 0 0] 35 (0, 0))).alloc (.cells #[.int .i64 1, .int .i64 0] 3 (0, 0))).alloc (.cells #[.int .i64 1, .int .i64 1, .int .i64 2, .slice (some ⟨w3.heap.size + 1 + 1 + 1, 0, none⟩) 2 2, .int .i64 0, .string ⟨#[84]⟩, .string ⟨#[105]⟩, .string ⟨#[102]⟩, .string v, .int .i64 0, .int .i64 0, .int .i64 0, .int .i64 0, .slice none 0 0] 35 (0, 0))) := (((((Frm.refl No w3).al _).al _).al _).al _).al _
  have hD : (((((w3.alloc (.cells #[.int .i64 0, .bool true, .int .i64 1, .int .i64 0, .string v, .int .i64 0, .int .i64 0, .slice d1 0 d1n, .slice d2 0 d2n, .slice d3 2 d3n] 30 (0, 0))).alloc (.cells #[.int .i64 1, .int .i64 0] 3 (0, 0))).alloc (.cells #[.int .i64 0, .int .i64 2, .int .i64 2, .slice (some ⟨w3.heap.size + 1, 0, none⟩) 2 2, .int .i64 0, .string ⟨#[84]⟩, .string ⟨#[105]⟩, .string ⟨#[102]⟩, .string w, .int .i64 0, .int .i64 0, .int .i64 0, .int .i64 0, .slice none 0 0] 35 (0, 0))).alloc (.cells #[.int .i64 1, .int .i64 0] 3 (0, 0))).alloc (.cells #[.int .i64 1, .int .i64 1, .int .i64 2, .slice (some ⟨w3.heap.size + 1 + 1 + 1, 0, none⟩) 2 2, .int .i64 0, .string ⟨#[84]⟩, .string ⟨#[105]⟩, .string ⟨#[102]⟩, .string v, .int .i64 0, .int .i64 0, .int .i64 0, .int .i64 0, .slice none 0 0] 35 (0, 0))).heap[w3.heap.size]? = some (.cells #[.int .i64 0, .bool true, .int .i64 1, .int .i64 0, .string v, .int .i64 0, .int .i64 0, .slice d1 0 d1n, .slice d2 0 d2n, .slice d3 2 d3n] 30 (0, 0)) := al_old (al_old (al_old (al_old (heap_alloc_new w3 _))))
  have hL : (((((w3.alloc (.cells #[.int .i64 0, .bool true, .int .i64 1, .int .i64 0, .string v, .int .i64 0, .int .i64 0, .slice d1 0 d1n, .slice d2 0 d2n, .slice d3 2 d3n] 30 (0, 0))).alloc (.cells #[.int .i64 1, .int .i64 0] 3 (0, 0))).alloc (.cells #[.int .i64 0, .int .i64 2, .int .i64 2, .slice (some ⟨w3.heap.size + 1, 0, none⟩) 2 2, .int .i64 0, .string ⟨#[84]⟩, .string ⟨#[105]⟩, .string ⟨#[102]⟩, .string w, .int .i64 0, .int .i64 0, .int .i64 0, .int .i64 0, .slice none 0 0] 35 (0, 0))).alloc (.cells #[.int .i64 1, .int .i64 0] 3 (0, 0))).alloc (.cells #[.int .i64 1, .int .i64 1, .int .i64 2, .slice (some ⟨w3.heap.size + 1 + 1 + 1, 0, none⟩) 2 2, .int .i64 0, .string ⟨#[84]⟩, .string ⟨#[105]⟩, .string ⟨#[102]⟩, .string v, .int .i64 0, .int .i64 0, .int .i64 0, .int .i64 0, .slice none 0 0] 35 (0, 0))).heap[w3.heap.size + 1]? = some (.cells #[.int .i64 1, .int .i64 0] 3 (0, 0)) := al_old (al_old (al_old (al_at (by simp))))
  have hA : (((((w3.alloc (.cells #[.int .i64 0, .bool true, .int .i64 1, .int .i64 0, .string v, .int .i64 0, .int .i64 0, .slice d1 0 d1n, .slice d2 0 d2n, .slice d3 2 d3n] 30 (0, 0))).alloc (.cells #[.int .i64 1, .int .i64 0] 3 (0, 0))).alloc (.cells #[.int .i64 0, .int .i64 2, .int .i64 2, .slice (some ⟨w3.heap.size + 1, 0, none⟩) 2 2, .int .i64 0, .string ⟨#[84]⟩, .string ⟨#[105]⟩, .string ⟨#[102]⟩, .string w, .int .i64 0, .int .i64 0, .int .i64 0, .int .i64 0, .slice none 0 0] 35 (0, 0))).alloc (.cells #[.int .i64 1, .int .i64 0] 3 (0, 0))).alloc (.cells #[.int .i64 1, .int .i64 1, .int .i64 2, .slice (some ⟨w3.heap.size + 1 + 1 + 1, 0, none⟩) 2 2, .int .i64 0, .string ⟨#[84]⟩, .string ⟨#[105]⟩, .string ⟨#[102]⟩, .string v, .int .i64 0, .int .i64 0, .int .i64 0, .int .i64 0, .slice none 0 0] 35 (0, 0))).heap[w3.heap.size + 1 + 1]? = some (.cells #[.int .i64 0, .int .i64 2, .int .i64 2, .slice (some ⟨w3.heap.size + 1, 0, none⟩) 2 2, .int .i64 0, .string ⟨#[84]⟩, .string ⟨#[105]⟩, .string ⟨#[102]⟩, .string w, .int .i64 0, .int .i64 0, .int .i64 0, .int .i64 0, .slice none 0 0] 35 (0, 0)) := al_old (al_old (al_at (by simp)))
  have hM : (((((w3.alloc (.cells #[.int .i64 0, .bool true, .int .i64 1, .int .i64 0, .string v, .int .i64 0, .int .i64 0, .slice d1 0 d1n, .slice d2 0 d2n, .slice d3 2 d3n] 30 (0, 0))).alloc (.cells #[.int .i64 1, .int .i64 0] 3 (0, 0))).alloc (.cells #[.int .i64 0, .int .i64 2, .int .i64 2, .slice (some ⟨w3.heap.size + 1, 0, none⟩) 2 2, .int .i64 0, .string ⟨#[84]⟩, .string ⟨#[105]⟩, .string ⟨#[102]⟩, .string w, .int .i64 0, .int .i64 0, .int .i64 0, .int .i64 0, .slice none 0 0] 35 (0, 0))).alloc (.cells #[.int .i64 1, .int .i64 0] 3 (0, 0))).alloc (.cells #[.int .i64 1, .int .i64 1, .int .i64 2, .slice (some ⟨w3.heap.size + 1 + 1 + 1, 0, none⟩) 2 2, .int .i64 0, .string ⟨#[84]⟩, .string ⟨#[105]⟩, .string ⟨#[102]⟩, .string v, .int .i64 0, .int .i64 0, .int .i64 0, .int .i64 0, .slice none 0 0] 35 (0, 0))).heap[w3.heap.size + 1 + 1 + 1]? = some (.cells #[.int .i64 1, .int .i64 0] 3 (0, 0)) := al_old (al_at (by simp))
  have hB : (((((w3.alloc (.cells #[.int .i64 0, .bool true, .int .i64 1, .int .i64 0, .string v, .int .i64 0, .int .i64 0, .slice d1 0 d1n, .slice d2 0 d2n, .slice d3 2 d3n] 30 (0, 0))).alloc (.cells #[.int .i64 1, .int .i64 0] 3 (0, 0))).alloc (.cells #[.int .i64 0, .int .i64 2, .int .i64 2, .slice (some ⟨w3.heap.size + 1, 0, none⟩) 2 2, .int .i64 0, .string ⟨#[84]⟩, .string ⟨#[105]⟩, .string ⟨#[102]⟩, .string w, .int .i64 0, .int .i64 0, .int .i64 0, .int .i64 0, .slice none 0 0] 35 (0, 0))).alloc (.cells #[.int .i64 1, .int .i64 0] 3 (0, 0))).alloc (.cells #[.int .i64 1, .int .i64 1, .int .i64 2, .slice (some ⟨w3.heap.size + 1 + 1 + 1, 0, none⟩) 2 2, .int .i64 0, .string ⟨#[84]⟩, .string ⟨#[105]⟩, .string ⟨#[102]⟩, .string v, .int .i64 0, .int .i64 0, .int .i64 0, .int .i64 0, .slice none 0 0] 35 (0, 0))).heap[w3.heap.size + 1 + 1 + 1 + 1]? = some (.cells #[.int .i64 1, .int .i64 1, .int .i64 2, .slice (some ⟨w3.heap.size + 1 + 1 + 1, 0, none⟩) 2 2, .int .i64 0, .string ⟨#[84]⟩, .string ⟨#[105]⟩, .string ⟨#[102]⟩, .string v, .int .i64 0, .int .i64 0, .int .i64 0, .int .i64 0, .slice none 0 0] 35 (0, 0)) := al_at (by simp)
  have RD0 := RD.no FY0
  have FY := F3.trans FY0
  clear F3 RD FY0 Z3 n3 n3a n3b n3c n3d t0 t1 t2 t3 t4 t5 t6 t7 t8 t9 t10 t11 t12 t13
  revert hD hL hA hM hB RD0 FY
  generalize (((((w3.alloc (.cells #[.int .i64 0, .bool true, .int .i64 1, .int .i64 0, .string v, .int .i64 0, .int .i64 0, .slice d1 0 d1n, .slice d2 0 d2n, .slice d3 2 d3n] 30 (0, 0))).alloc (.cells #[.int .i64 1, .int .i64 0] 3 (0, 0))).alloc (.cells #[.int .i64 0, .int .i64 2, .int .i64 2, .slice (some ⟨w3.heap.size + 1, 0, none⟩) 2 2, .int .i64 0, .string ⟨#[84]⟩, .string ⟨#[105]⟩, .string ⟨#[102]⟩, .string w, .int .i64 0, .int .i64 0, .int .i64 0, .int .i64 0, .slice none 0 0] 35 (0, 0))).alloc (.cells #[.int .i64 1, .int .i64 0] 3 (0, 0))).alloc (.cells #[.int .i64 1, .int .i64 1, .int .i64 2, .slice (some ⟨w3.heap.size + 1 + 1 + 1, 0, none⟩) 2 2, .int .i64 0, .string ⟨#[84]⟩, .string ⟨#[105]⟩, .string ⟨#[102]⟩, .string v, .int .i64 0, .int .i64 0, .int .i64 0, .int .i64 0, .slice none 0 0] 35 (0, 0))) = Y
  intro hD hL hA hM hB RD0 FY
  have hLA : Ow Y (fun k => k = w3.heap.size + 1) 3 eInt (.slice (some ⟨w3.heap.size + 1, 0, none⟩) 2 2) [1, 0] := Ow.row (l := [1, 0]) (c := 2) hL rfl (by decide) (by decide) rfl rfl
  have hLB : Ow Y (fun k => k = w3.heap.size + 1 + 1 + 1) 3 eInt (.slice (some ⟨w3.heap.size + 1 + 1 + 1, 0, none⟩) 2 2) [1, 0] := Ow.row (l := [1, 0]) (c := 2) hM rfl (by decide) (by decide) rfl rfl
  have OA : OpR Y (opP 0 w (0, 0) (0, 0)) (.slice (some ⟨w3.heap.size + 1, 0, none⟩) 2 2) (.slice none 0 0) := ⟨hLA.rd, RdS.nil _ _⟩
  have OB : OpR Y (opQ 0 v (0, 0) (0, 0) []) (.slice (some ⟨w3.heap.size + 1 + 1 + 1, 0, none⟩) 2 2) (.slice none 0 0) := ⟨hLB.rd, RdS.nil _ _⟩
  clear hL hM hLA hLB 
  refine (apply_gen T2.out (F := (fun x1 x2 x3 => .agg #[.int .i64 0, .bool true, .int .i64 2, .int .i64 0, .string w, .int .i64 0, .int .i64 0, x1, x2, x3])) (fun _ _ _ => rfl) (e := 0) (l := 0) (s := 2) rfl rfl rfl RD0 ⟨(by show 0 * 32 ≤ _; unfold reachBytes; omega), (by show 0 * 48 ≤ _; unfold reachBytes; omega), (by show 2 * 8 ≤ _; unfold reachBytes; omega)⟩ ⟨small_of HV.out, (fun x hx => by cases hx), (fun x hx => by cases hx)⟩ OA (opB_of (by show 1 ≤ 256; omega) (by show 1 ≤ 256; omega) (by show 1 ≤ 256; omega) HW.out)).mono ?_
  rintro e w4 ⟨p1, p1n, p2, p2n, p3, p3n, rfl, ow4, fw4⟩
  have F4 := FY.trans fw4
  have D4 := fw4.obj hD id
  have A4 := fw4.obj hA id
  have B4 := fw4.obj hB id
  have OA4 := OA.no fw4
  have OB4 := OB.no fw4
  have RD4 := RD0.no fw4
  have RP := ow4.rd
  clear FY hD hA hB OA OB RD0 ow4 fw4 T2
  have nA := lt_of_block A4
  have nB := lt_of_block B4
  have nD := lt_of_block D4
  obtain ⟨t0, t1, t2, t3, t4, t5, t6, t7, t8, t9, t10, t11, t12, t13⟩ := obj14 B4
  go_wp2_with (fail)
  clear t0 t1 t2 t3 t4 t5 t6 t7 t8 t9 t10 t11 t12 t13
  have G4 := (Frm.refl No w4).al (.cells #[.int .i64 0, .bool true, .int .i64 2, .int .i64 0, .string w, .int .i64 0, .int .i64 0, .slice p1 0 p1n, .slice p2 0 p2n, .slice p3 2 p3n] 30 (0, 0))
  refine (apply_gen T3.out (F := (fun x1 x2 x3 => .agg #[.int .i64 0, .bool true, .int .i64 2, .int .i64 1, .string v, .int .i64 0, .int .i64 0, x1, x2, x3])) (fun _ _ _ => rfl) (e := 0) (l := 0) (s := 2) rfl rfl rfl (RP.no G4) ⟨(by show 0 * 32 ≤ _; unfold reachBytes; omega), (by show 0 * 48 ≤ _; unfold reachBytes; omega), (by show 2 * 8 ≤ _; unfold reachBytes; omega)⟩ ⟨small_of HW.out, (fun x hx => by cases hx), (fun x hx => by cases hx)⟩ (OB4.no G4) (opB_of (by show 1 ≤ 256; omega) (by show 1 ≤ 256; omega) (by show 1 ≤ 256; omega) HV.out)).mono ?_
  rintro e w5 ⟨q1, q1n, q2, q2n, q3, q3n, rfl, ow5, fw5⟩
  have G4 := G4.trans fw5
  have F5 := F4.trans G4
  have D5 := G4.obj D4 id
  have A5 := G4.obj A4 id
  have B5 := G4.obj B4 id
  have OA5 := OA4.no G4
  have OB5 := OB4.no G4
  have RD5 := RD4.no G4
  have RQ := ow5.rd
  clear F4 D4 A4 B4 OA4 OB4 RD4 ow5 fw5 G4 T3 nA nB nD RP
  have nA := lt_of_block A5
  have nB := lt_of_block B5
  have nD := lt_of_block D5
  obtain ⟨q0, q1, q2, q3, q4, q5, q6, q7, q8, q9⟩ := obj10 D5
  obtain ⟨t0, t1, t2, t3, t4, t5, t6, t7, t8, t9, t10, t11, t12, t13⟩ := obj14 B5
  go_wp2_with (fail)
  clear q0 q1 q2 q3 q4 q5 q6 q7 q8 q9 t0 t1 t2 t3 t4 t5 t6 t7 t8 t9 t10 t11 t12 t13
  have G5 := (Frm.refl No w5).al (.cells #[.int .i64 0, .bool true, .int .i64 2, .int .i64 1, .string v, .int .i64 0, .int .i64 0, .slice q1 0 q1n, .slice q2 0 q2n, .slice q3 2 q3n] 30 (0, 0))
  refine (apply_gen T4.out (F := (fun x1 x2 x3 => .agg #[.int .i64 0, .bool true, .int .i64 2, .int .i64 1, .string v, .int .i64 0, .int .i64 0, x1, x2, x3])) (fun _ _ _ => rfl) (e := 0) (l := 0) (s := 2) rfl rfl rfl (RD5.no G5) ⟨(by show 0 * 32 ≤ _; unfold reachBytes; omega), (by show 0 * 48 ≤ _; unfold reachBytes; omega), (by show 2 * 8 ≤ _; unfold reachBytes; omega)⟩ ⟨small_of HV.out, (fun x hx => by cases hx), (fun x hx => by cases hx)⟩ (OB5.no G5) (opB_of (by show 1 ≤ 256; omega) (by show 1 ≤ 256; omega) (by show 1 ≤ 256; omega) HV.out)).mono ?_
  rintro e w6 ⟨r1, r1n, r2, r2n, r3, r3n, rfl, ow6, fw6⟩
  have Q5 := heap_alloc_new w5 (.cells #[.int .i64 0, .bool true, .int .i64 2, .int .i64 1, .string v, .int .i64 0, .int .i64 0, .slice q1 0 q1n, .slice q2 0 q2n, .slice q3 2 q3n] 30 (0, 0))
  have Q6 := fw6.obj Q5 id
  have G5 := G5.trans fw6
  have F6 := F5.trans G5
  have A6 := G5.obj A5 id
  have OA6 := OA5.no G5
  have RQ6 := RQ.no G5
  have RR := ow6.rd
  clear F5 D5 A5 B5 OA5 OB5 RD5 ow6 fw6 G5 T4 nA nB nD RQ Q5
  have nA := lt_of_block A6
  have nQ := lt_of_block Q6
  obtain ⟨t0, t1, t2, t3, t4, t5, t6, t7, t8, t9, t10, t11, t12, t13⟩ := obj14 A6
  go_wp2_with (fail)
  clear t0 t1 t2 t3 t4 t5 t6 t7 t8 t9 t10 t11 t12 t13
  have G6 := (Frm.refl No w6).al (.cells #[.int .i64 0, .bool true, .int .i64 2, .int .i64 1, .string v, .int .i64 0, .int .i64 0, .slice r1 0 r1n, .slice r2 0 r2n, .slice r3 2 r3n] 30 (0, 0))
  refine (apply_gen T5.out (F := (fun x1 x2 x3 => .agg #[.int .i64 0, .bool true, .int .i64 2, .int .i64 1, .string v, .int .i64 0, .int .i64 0, x1, x2, x3])) (fun _ _ _ => rfl) (e := 0) (l := 0) (s := 2) rfl rfl rfl (RR.no G6) ⟨(by show 0 * 32 ≤ _; unfold reachBytes; omega), (by show 0 * 48 ≤ _; unfold reachBytes; omega), (by show 2 * 8 ≤ _; unfold reachBytes; omega)⟩ ⟨small_of HV.out, (fun x hx => by cases hx), (fun x hx => by cases hx)⟩ (OA6.no G6) (opB_of (by show 1 ≤ 256; omega) (by show 1 ≤ 256; omega) (by show 1 ≤ 256; omega) HW.out)).mono ?_
  rintro e w7 ⟨s1, s1n, s2, s2n, s3, s3n, rfl, ow7, fw7⟩
  have Q7 := (G6.trans fw7).obj Q6 id
  have G6 := G6.trans fw7
  have F7 := F6.trans G6
  have RQ7 := RQ6.no G6
  have RS := ow7.rd
  clear F6 A6 OA6 ow7 fw7 G6 T5 nA nQ RQ6 RR Q6
  have nQ := lt_of_block Q7
  obtain ⟨q0, q1, q2, q3, q4, q5, q6, q7, q8, q9⟩ := obj10 Q7
  go_wp2_with (go_at_call 18; refine (num_ok _ _).mono ?_; rintro e w' ⟨rfl, rfl⟩)
  have G7 := (Frm.refl No w7).al (.cells #[.int .i64 0, .bool true, .int .i64 2, .int .i64 1, .string v, .int .i64 0, .int .i64 0, .slice s1 0 s1n, .slice s2 0 s2n, .slice s3 2 s3n] 30 (0, 0))
  refine (sameCell_ok (RQ7.no G7) (RS.no G7)).mono ?_
  rintro e w8 ⟨rfl, f8⟩
  have G7 := G7.trans f8
  have F8 := F7.trans G7
  have RQ8 := RQ7.no G7
  have Q8 := G7.obj Q7 id
  clear F7 RQ7 RS Q7 f8 G7 nQ
  clear q0 q1 q2 q3 q4 q5 q6 q7 q8 q9
  have nQ := lt_of_block Q8
  obtain ⟨q0, q1, q2, q3, q4, q5, q6, q7, q8, q9⟩ := obj10 Q8
  go_wp2_with (fail)
  have L8 : RdS (w8.alloc (.cells #[.int .i64 2, .int .i64 1] 3 (0, 0))) eInt (.slice (some ⟨w8.heap.size, 0, none⟩) 2 2) [2, 1] := RdS_lits w8 eInt [2, 1] 3 (g := w8.heap.size) (n := 2) rfl rfl (by decide)
  refine (sameInts_ok (RQ8.s.no ((Frm.refl No w8).al _)) L8).mono ?_
  rintro e w9 ⟨rfl, k, hw9⟩
  have G8 : Frm No w8 w9 := by rw [hw9]; exact ((Frm.refl No w8).al _).dr k
  clear hw9
  rw [show decide ((c0 (2, 1) v [2, 1]).seen = [2, 1]) = true from rfl]
  go_wp2_with (fail)
  go_ret
  exact ⟨rfl, F8.trans G8⟩
end Go.Proofs.YtofikfkgiblblaaGreatDoor

/- tattlelaw12.CellTwo, one of its six ways. -/
namespace Go.Proofs.YtofikfkgiblblaaGreatDoor
set_option linter.unusedVariables false
set_option linter.unusedSimpArgs false
open Go.RowKit Go.Lib Go.Tt Go.Shelf
set_option maxHeartbeats 8000000 in
set_option maxRecDepth 100000 in
theorem ltwo1 {w0 : World} (tab : Tab w0) (kind x : Int) (hk : (IntKind.u64.wrap kind).tmod 4 = 1) {v w : ByteArray} (hv : v.size ≤ 256) (hw : w.size ≤ 256) :
    Calls Tryz.prog 8 #[.int .i64 kind, .string v, .string w, .int .i64 x] w0 fun e w' => e = .returned (.bool true) ∧ Frm No w0 w' := by
  obtain ⟨y, hy, hy1⟩ := mask_nat 1023 x _ (and_1023 x)
  obtain ⟨T1, T2, T3, T4, T5, T6⟩ := two1 (y := y) (by omega)
  replace T1 := Lib.hid T1
  replace T2 := Lib.hid T2
  replace T3 := Lib.hid T3
  replace T4 := Lib.hid T4
  replace T5 := Lib.hid T5
  clear T6
  have HV := Lib.hid hv
  have HW := Lib.hid hw
  have g1 : ¬ (256 < (v.size : Int)) := by omega
  have g2 : ¬ (256 < (w.size : Int)) := by omega
  have HA := Lib.hid (awake_ok tab)
  clear hv hw tab
  go_enter Tryz.func8, Tryz.ntmps8
  go_wp2_with (fail)
  refine HA.out.mono ?_
  rintro e w1 ⟨rfl, F1⟩
  clear HA
  go_wp2_with (fail)
  refine (new_gen (F := (fun x1 x2 x3 => .agg #[.int .i64 1, .bool false, .int .i64 0, .int .i64 0, .string ⟨#[]⟩, .int .i64 0, .int .i64 0, x1, x2, x3])) (show newF 1 2 = (newC 1 2, 0) from rfl) (fun _ _ _ => rfl) (e := 0) (l := 0) (s := 2) rfl rfl rfl w1).mono ?_
  rintro e w2 ⟨a1, a1n, a2, a2n, a3, a3n, rfl, r2, f2⟩
  have F2 := F1.trans f2
  clear F1 f2
  go_wp2_with (fail)
  have FX : Frm No w2 ((((w2.alloc (.cells #[.int .i64 1, .bool false, .int .i64 0, .int .i64 0, .string ⟨#[]⟩, .int .i64 0, .int .i64 0, .slice a1 0 a1n, .slice a2 0 a2n, .slice a3 2 a3n] 30 (0, 0))).alloc (.cells #[.int .i64 0, .int .i64 0] 3 (0, 0))).alloc (.cells #[.int .i64 0, .int .i64 1, .int .i64 2, .int .i64 4] 3 (0, 0))).alloc (.cells #[.int .i64 0, .int .i64 1, .int .i64 1, .slice (some ⟨w2.heap.size + 1, 0, none⟩) 2 2, .int .i64 1, .string ⟨#[84]⟩, .string ⟨#[105]⟩, .string ⟨#[102]⟩, .string ⟨#[]⟩, .int .i64 0, .int .i64 0, .int .i64 0, .int .i64 0, .slice none 0 0] 35 (0, 0))) := ((((Frm.refl No w2).al _).al _).al _).al _
  have ZX : ((((w2.alloc (.cells #[.int .i64 1, .bool false, .int .i64 0, .int .i64 0, .string ⟨#[]⟩, .int .i64 0, .int .i64 0, .slice a1 0 a1n, .slice a2 0 a2n, .slice a3 2 a3n] 30 (0, 0))).alloc (.cells #[.int .i64 0, .int .i64 0] 3 (0, 0))).alloc (.cells #[.int .i64 0, .int .i64 1, .int .i64 2, .int .i64 4] 3 (0, 0))).alloc (.cells #[.int .i64 0, .int .i64 1, .int .i64 1, .slice (some ⟨w2.heap.size + 1, 0, none⟩) 2 2, .int .i64 1, .string ⟨#[84]⟩, .string ⟨#[105]⟩, .string ⟨#[102]⟩, .string ⟨#[]⟩, .int .i64 0, .int .i64 0, .int .i64 0, .int .i64 0, .slice none 0 0] 35 (0, 0))).heap[w2.heap.size + 1 + 1 + 1]? = some (.cells #[.int .i64 0, .int .i64 1, .int .i64 1, .slice (some ⟨w2.heap.size + 1, 0, none⟩) 2 2, .int .i64 1, .string ⟨#[84]⟩, .string ⟨#[105]⟩, .string ⟨#[102]⟩, .string ⟨#[]⟩, .int .i64 0, .int .i64 0, .int .i64 0, .int .i64 0, .slice none 0 0] 35 (0, 0)) := al_at (by simp)
  have LX : ((((w2.alloc (.cells #[.int .i64 1, .bool false, .int .i64 0, .int .i64 0, .string ⟨#[]⟩, .int .i64 0, .int .i64 0, .slice a1 0 a1n, .slice a2 0 a2n, .slice a3 2 a3n] 30 (0, 0))).alloc (.cells #[.int .i64 0, .int .i64 0] 3 (0, 0))).alloc (.cells #[.int .i64 0, .int .i64 1, .int .i64 2, .int .i64 4] 3 (0, 0))).alloc (.cells #[.int .i64 0, .int .i64 1, .int .i64 1, .slice (some ⟨w2.heap.size + 1, 0, none⟩) 2 2, .int .i64 1, .string ⟨#[84]⟩, .string ⟨#[105]⟩, .string ⟨#[102]⟩, .string ⟨#[]⟩, .int .i64 0, .int .i64 0, .int .i64 0, .int .i64 0, .slice none 0 0] 35 (0, 0))).heap[w2.heap.size + 1]? = some (.cells #[.int .i64 0, .int .i64 0] 3 (0, 0)) := al_old (al_old (al_at (by simp)))
  have zX : ((((w2.alloc (.cells #[.int .i64 1, .bool false, .int .i64 0, .int .i64 0, .string ⟨#[]⟩, .int .i64 0, .int .i64 0, .slice a1 0 a1n, .slice a2 0 a2n, .slice a3 2 a3n] 30 (0, 0))).alloc (.cells #[.int .i64 0, .int .i64 0] 3 (0, 0))).alloc (.cells #[.int .i64 0, .int .i64 1, .int .i64 2, .int .i64 4] 3 (0, 0))).alloc (.cells #[.int .i64 0, .int .i64 1, .int .i64 1, .slice (some ⟨w2.heap.size + 1, 0, none⟩) 2 2, .int .i64 1, .string ⟨#[84]⟩, .string ⟨#[105]⟩, .string ⟨#[102]⟩, .string ⟨#[]⟩, .int .i64 0, .int .i64 0, .int .i64 0, .int .i64 0, .slice none 0 0] 35 (0, 0))).heap.size = w2.heap.size + 1 + 1 + 1 + 1 := by simp
  have R2 := r2.no FX
  have FX := F2.trans FX
  clear r2 F2
  revert FX ZX LX zX R2
  generalize ((((w2.alloc (.cells #[.int .i64 1, .bool false, .int .i64 0, .int .i64 0, .string ⟨#[]⟩, .int .i64 0, .int .i64 0, .slice a1 0 a1n, .slice a2 0 a2n, .slice a3 2 a3n] 30 (0, 0))).alloc (.cells #[.int .i64 0, .int .i64 0] 3 (0, 0))).alloc (.cells #[.int .i64 0, .int .i64 1, .int .i64 2, .int .i64 4] 3 (0, 0))).alloc (.cells #[.int .i64 0, .int .i64 1, .int .i64 1, .slice (some ⟨w2.heap.size + 1, 0, none⟩) 2 2, .int .i64 1, .string ⟨#[84]⟩, .string ⟨#[105]⟩, .string ⟨#[102]⟩, .string ⟨#[]⟩, .int .i64 0, .int .i64 0, .int .i64 0, .int .i64 0, .slice none 0 0] 35 (0, 0))) = X
  intro ZX LX zX R2 FX
  have DX : Ow X (fun k => k = w2.heap.size + 1) 3 eInt (.slice (some ⟨w2.heap.size + 1, 0, none⟩) 2 2) [0, 0] := Ow.row (l := [0, 0]) (c := 2) LX rfl (by decide) (by decide) rfl rfl
  refine (apply_gen T1.out (F := (fun x1 x2 x3 => .agg #[.int .i64 1, .bool false, .int .i64 0, .int .i64 0, .string ⟨#[]⟩, .int .i64 0, .int .i64 0, x1, x2, x3])) (fun _ _ _ => rfl) (e := 0) (l := 0) (s := 2) rfl rfl rfl R2 ⟨(by show 0 * 32 ≤ _; unfold reachBytes; omega), (by show 0 * 48 ≤ _; unfold reachBytes; omega), (by show 2 * 8 ≤ _; unfold reachBytes; omega)⟩ ⟨(by show 0 ≤ _; omega), (fun x hx => by cases hx), (fun x hx => by cases hx)⟩ ⟨DX.rd, RdS.nil _ _⟩ (opB_of (by show 1 ≤ 256; omega) (by show 1 ≤ 256; omega) (by show 1 ≤ 256; omega) (by show 0 ≤ 256; omega))).mono ?_
  rintro e w3 ⟨d1, d1n, d2, d2n, d3, d3n, rfl, o3, f3⟩
  have F3 := FX.trans f3
  have Z3 := f3.obj ZX id
  have RD := o3.rd
  clear T1 FX ZX LX zX R2 DX o3 f3
  have n3 := lt_of_block Z3
  have n3a : w2.heap.size + 1 + 1 + 1 < w3.heap.size + 1 := by omega
  have n3b : w2.heap.size + 1 + 1 + 1 < w3.heap.size + 1 + 1 := by omega
  have n3c : w2.heap.size + 1 + 1 + 1 < w3.heap.size + 1 + 1 + 1 := by omega
  have n3d : w2.heap.size + 1 + 1 + 1 < w3.heap.size + 1 + 1 + 1 + 1 := by omega
  obtain ⟨t0, t1, t2, t3, t4, t5, t6, t7, t8, t9, t10, t11, t12, t13⟩ := obj14 Z3
  go_wp2_with (fail)

  have FY0 : Frm No w3 (((((w3.alloc (.cells #[.int .i64 1, .bool false, .int .i64 0, .int .i64 0, .string ⟨#[]⟩, .int .i64 0, .int .i64 0, .slice d1 0 d1n, .slice d2 0 d2n, .slice d3 2 d3n] 30 (0, 0))).alloc (.cells #[.int .i64 1, .int .i64 0] 3 (0, 0))).alloc (.cells #[.int .i64 0, .int .i64 2, .int .i64 2, .slice (some ⟨w3.heap.size + 1, 0, none⟩) 2 2, .int .i64 1, .string ⟨#[84]⟩, .string ⟨#[105]⟩, .string ⟨#[102]⟩, .string ⟨#[]⟩, .int .i64 (y : Int), .int .i64 0, .int .i64 0, .int .i64 0, .slice none 0 0] 35 (0, 0))).alloc (.cells #[.int .i64 1, .int .i64 0] 3 (0, 0))).alloc (.cells #[.int .i64 1, .int .i64 1, .int .i64 2, .slice (some ⟨w3.heap.size + 1 + 1 + 1, 0, none⟩) 2 2, .int .i64 1, .string ⟨#[84]⟩, .string ⟨#[105]⟩, .string ⟨#[102]⟩, .string ⟨#[]⟩, .int .i64 0, .int .i64 (-(y : Int)), .int .i64 0, .int .i64 0, .slice none 0 0] 35 (0, 0))) := (((((Frm.refl No w3).al _).al _).al _).al _).al _
  have hD : (((((w3.alloc (.cells #[.int .i64 1, .bool false, .int .i64 0, .int .i64 0, .string ⟨#[]⟩, .int .i64 0, .int .i64 0, .slice d1 0 d1n, .slice d2 0 d2n, .slice d3 2 d3n] 30 (0, 0))).alloc (.cells #[.int .i64 1, .int .i64 0] 3 (0, 0))).alloc (.cells #[.int .i64 0, .int .i64 2, .int .i64 2, .slice (some ⟨w3.heap.size + 1, 0, none⟩) 2 2, .int .i64 1, .string ⟨#[84]⟩, .string ⟨#[105]⟩, .string ⟨#[102]⟩, .string ⟨#[]⟩, .int .i64 (y : Int), .int .i64 0, .int .i64 0, .int .i64 0, .slice none 0 0] 35 (0, 0))).alloc (.cells #[.int .i64 1, .int .i64 0] 3 (0, 0))).alloc (.cells #[.int .i64 1, .int .i64 1, .int .i64 2, .slice (some ⟨w3.heap.size + 1 + 1 + 1, 0, none⟩) 2 2, .int .i64 1, .string ⟨#[84]⟩, .string ⟨#[105]⟩, .string ⟨#[102]⟩, .string ⟨#[]⟩, .int .i64 0, .int .i64 (-(y : Int)), .int .i64 0, .int .i64 0, .slice none 0 0] 35 (0, 0))).heap[w3.heap.size]? = some (.cells #[.int .i64 1, .bool false, .int .i64 0, .int .i64 0, .string ⟨#[]⟩, .int .i64 0, .int .i64 0, .slice d1 0 d1n, .slice d2 0 d2n, .slice d3 2 d3n] 30 (0, 0)) := al_old (al_old (al_old (al_old (heap_alloc_new w3 _))))
  have hL : (((((w3.alloc (.cells #[.int .i64 1, .bool false, .int .i64 0, .int .i64 0, .string ⟨#[]⟩, .int .i64 0, .int .i64 0, .slice d1 0 d1n, .slice d2 0 d2n, .slice d3 2 d3n] 30 (0, 0))).alloc (.cells #[.int .i64 1, .int .i64 0] 3 (0, 0))).alloc (.cells #[.int .i64 0, .int .i64 2, .int .i64 2, .slice (some ⟨w3.heap.size + 1, 0, none⟩) 2 2, .int .i64 1, .string ⟨#[84]⟩, .string ⟨#[105]⟩, .string ⟨#[102]⟩, .string ⟨#[]⟩, .int .i64 (y : Int), .int .i64 0, .int .i64 0, .int .i64 0, .slice none 0 0] 35 (0, 0))).alloc (.cells #[.int .i64 1, .int .i64 0] 3 (0, 0))).alloc (.cells #[.int .i64 1, .int .i64 1, .int .i64 2, .slice (some ⟨w3.heap.size + 1 + 1 + 1, 0, none⟩) 2 2, .int .i64 1, .string ⟨#[84]⟩, .string ⟨#[105]⟩, .string ⟨#[102]⟩, .string ⟨#[]⟩, .int .i64 0, .int .i64 (-(y : Int)), .int .i64 0, .int .i64 0, .slice none 0 0] 35 (0, 0))).heap[w3.heap.size + 1]? = some (.cells #[.int .i64 1, .int .i64 0] 3 (0, 0)) := al_old (al_old (al_old (al_at (by simp))))
  have hA : (((((w3.alloc (.cells #[.int .i64 1, .bool false, .int .i64 0, .int .i64 0, .string ⟨#[]⟩, .int .i64 0, .int .i64 0, .slice d1 0 d1n, .slice d2 0 d2n, .slice d3 2 d3n] 30 (0, 0))).alloc (.cells #[.int .i64 1, .int .i64 0] 3 (0, 0))).alloc (.cells #[.int .i64 0, .int .i64 2, .int .i64 2, .slice (some ⟨w3.heap.size + 1, 0, none⟩) 2 2, .int .i64 1, .string ⟨#[84]⟩, .string ⟨#[105]⟩, .string ⟨#[102]⟩, .string ⟨#[]⟩, .int .i64 (y : Int), .int .i64 0, .int .i64 0, .int .i64 0, .slice none 0 0] 35 (0, 0))).alloc (.cells #[.int .i64 1, .int .i64 0] 3 (0, 0))).alloc (.cells #[.int .i64 1, .int .i64 1, .int .i64 2, .slice (some ⟨w3.heap.size + 1 + 1 + 1, 0, none⟩) 2 2, .int .i64 1, .string ⟨#[84]⟩, .string ⟨#[105]⟩, .string ⟨#[102]⟩, .string ⟨#[]⟩, .int .i64 0, .int .i64 (-(y : Int)), .int .i64 0, .int .i64 0, .slice none 0 0] 35 (0, 0))).heap[w3.heap.size + 1 + 1]? = some (.cells #[.int .i64 0, .int .i64 2, .int .i64 2, .slice (some ⟨w3.heap.size + 1, 0, none⟩) 2 2, .int .i64 1, .string ⟨#[84]⟩, .string ⟨#[105]⟩, .string ⟨#[102]⟩, .string ⟨#[]⟩, .int .i64 (y : Int), .int .i64 0, .int .i64 0, .int .i64 0, .slice none 0 0] 35 (0, 0)) := al_old (al_old (al_at (by simp)))
  have hM : (((((w3.alloc (.cells #[.int .i64 1, .bool false, .int .i64 0, .int .i64 0, .string ⟨#[]⟩, .int .i64 0, .int .i64 0, .slice d1 0 d1n, .slice d2 0 d2n, .slice d3 2 d3n] 30 (0, 0))).alloc (.cells #[.int .i64 1, .int .i64 0] 3 (0, 0))).alloc (.cells #[.int .i64 0, .int .i64 2, .int .i64 2, .slice (some ⟨w3.heap.size + 1, 0, none⟩) 2 2, .int .i64 1, .string ⟨#[84]⟩, .string ⟨#[105]⟩, .string ⟨#[102]⟩, .string ⟨#[]⟩, .int .i64 (y : Int), .int .i64 0, .int .i64 0, .int .i64 0, .slice none 0 0] 35 (0, 0))).alloc (.cells #[.int .i64 1, .int .i64 0] 3 (0, 0))).alloc (.cells #[.int .i64 1, .int .i64 1, .int .i64 2, .slice (some ⟨w3.heap.size + 1 + 1 + 1, 0, none⟩) 2 2, .int .i64 1, .string ⟨#[84]⟩, .string ⟨#[105]⟩, .string ⟨#[102]⟩, .string ⟨#[]⟩, .int .i64 0, .int .i64 (-(y : Int)), .int .i64 0, .int .i64 0, .slice none 0 0] 35 (0, 0))).heap[w3.heap.size + 1 + 1 + 1]? = some (.cells #[.int .i64 1, .int .i64 0] 3 (0, 0)) := al_old (al_at (by simp))
  have hB : (((((w3.alloc (.cells #[.int .i64 1, .bool false, .int .i64 0, .int .i64 0, .string ⟨#[]⟩, .int .i64 0, .int .i64 0, .slice d1 0 d1n, .slice d2 0 d2n, .slice d3 2 d3n] 30 (0, 0))).alloc (.cells #[.int .i64 1, .int .i64 0] 3 (0, 0))).alloc (.cells #[.int .i64 0, .int .i64 2, .int .i64 2, .slice (some ⟨w3.heap.size + 1, 0, none⟩) 2 2, .int .i64 1, .string ⟨#[84]⟩, .string ⟨#[105]⟩, .string ⟨#[102]⟩, .string ⟨#[]⟩, .int .i64 (y : Int), .int .i64 0, .int .i64 0, .int .i64 0, .slice none 0 0] 35 (0, 0))).alloc (.cells #[.int .i64 1, .int .i64 0] 3 (0, 0))).alloc (.cells #[.int .i64 1, .int .i64 1, .int .i64 2, .slice (some ⟨w3.heap.size + 1 + 1 + 1, 0, none⟩) 2 2, .int .i64 1, .string ⟨#[84]⟩, .string ⟨#[105]⟩, .string ⟨#[102]⟩, .string ⟨#[]⟩, .int .i64 0, .int .i64 (-(y : Int)), .int .i64 0, .int .i64 0, .slice none 0 0] 35 (0, 0))).heap[w3.heap.size + 1 + 1 + 1 + 1]? = some (.cells #[.int .i64 1, .int .i64 1, .int .i64 2, .slice (some ⟨w3.heap.size + 1 + 1 + 1, 0, none⟩) 2 2, .int .i64 1, .string ⟨#[84]⟩, .string ⟨#[105]⟩, .string ⟨#[102]⟩, .string ⟨#[]⟩, .int .i64 0, .int .i64 (-(y : Int)), .int .i64 0, .int .i64 0, .slice none 0 0] 35 (0, 0)) := al_at (by simp)
  have RD0 := RD.no FY0
  have FY := F3.trans FY0
  clear F3 RD FY0 Z3 n3 n3a n3b n3c n3d t0 t1 t2 t3 t4 t5 t6 t7 t8 t9 t10 t11 t12 t13
  revert hD hL hA hM hB RD0 FY
  generalize (((((w3.alloc (.cells #[.int .i64 1, .bool false, .int .i64 0, .int .i64 0, .string ⟨#[]⟩, .int .i64 0, .int .i64 0, .slice d1 0 d1n, .slice d2 0 d2n, .slice d3 2 d3n] 30 (0, 0))).alloc (.cells #[.int .i64 1, .int .i64 0] 3 (0, 0))).alloc (.cells #[.int .i64 0, .int .i64 2, .int .i64 2, .slice (some ⟨w3.heap.size + 1, 0, none⟩) 2 2, .int .i64 1, .string ⟨#[84]⟩, .string ⟨#[105]⟩, .string ⟨#[102]⟩, .string ⟨#[]⟩, .int .i64 (y : Int), .int .i64 0, .int .i64 0, .int .i64 0, .slice none 0 0] 35 (0, 0))).alloc (.cells #[.int .i64 1, .int .i64 0] 3 (0, 0))).alloc (.cells #[.int .i64 1, .int .i64 1, .int .i64 2, .slice (some ⟨w3.heap.size + 1 + 1 + 1, 0, none⟩) 2 2, .int .i64 1, .string ⟨#[84]⟩, .string ⟨#[105]⟩, .string ⟨#[102]⟩, .string ⟨#[]⟩, .int .i64 0, .int .i64 (-(y : Int)), .int .i64 0, .int .i64 0, .slice none 0 0] 35 (0, 0))) = Y
  intro hD hL hA hM hB RD0 FY
  have hLA : Ow Y (fun k => k = w3.heap.size + 1) 3 eInt (.slice (some ⟨w3.heap.size + 1, 0, none⟩) 2 2) [1, 0] := Ow.row (l := [1, 0]) (c := 2) hL rfl (by decide) (by decide) rfl rfl
  have hLB : Ow Y (fun k => k = w3.heap.size + 1 + 1 + 1) 3 eInt (.slice (some ⟨w3.heap.size + 1 + 1 + 1, 0, none⟩) 2 2) [1, 0] := Ow.row (l := [1, 0]) (c := 2) hM rfl (by decide) (by decide) rfl rfl
  have OA : OpR Y (opP 1 ⟨#[]⟩ ((y : Int), 0) (0, 0)) (.slice (some ⟨w3.heap.size + 1, 0, none⟩) 2 2) (.slice none 0 0) := ⟨hLA.rd, RdS.nil _ _⟩
  have OB : OpR Y (opQ 1 ⟨#[]⟩ (0, -(y : Int)) (0, 0) []) (.slice (some ⟨w3.heap.size + 1 + 1 + 1, 0, none⟩) 2 2) (.slice none 0 0) := ⟨hLB.rd, RdS.nil _ _⟩
  clear hL hM hLA hLB 
  refine (apply_gen T2.out (F := (fun x1 x2 x3 => .agg #[.int .i64 1, .bool false, .int .i64 0, .int .i64 0, .string ⟨#[]⟩, .int .i64 (y : Int), .int .i64 0, x1, x2, x3])) (fun _ _ _ => rfl) (e := 0) (l := 0) (s := 2) rfl rfl rfl RD0 ⟨(by show 0 * 32 ≤ _; unfold reachBytes; omega), (by show 0 * 48 ≤ _; unfold reachBytes; omega), (by show 2 * 8 ≤ _; unfold reachBytes; omega)⟩ ⟨(by show 0 ≤ _; omega), (fun x hx => by cases hx), (fun x hx => by cases hx)⟩ OA (opB_of (by show 1 ≤ 256; omega) (by show 1 ≤ 256; omega) (by show 1 ≤ 256; omega) (by show 0 ≤ 256; omega))).mono ?_
  rintro e w4 ⟨p1, p1n, p2, p2n, p3, p3n, rfl, ow4, fw4⟩
  have F4 := FY.trans fw4
  have D4 := fw4.obj hD id
  have A4 := fw4.obj hA id
  have B4 := fw4.obj hB id
  have OA4 := OA.no fw4
  have OB4 := OB.no fw4
  have RD4 := RD0.no fw4
  have RP := ow4.rd
  clear FY hD hA hB OA OB RD0 ow4 fw4 T2
  have nA := lt_of_block A4
  have nB := lt_of_block B4
  have nD := lt_of_block D4
  obtain ⟨t0, t1, t2, t3, t4, t5, t6, t7, t8, t9, t10, t11, t12, t13⟩ := obj14 B4
  go_wp2_with (fail)
  clear t0 t1 t2 t3 t4 t5 t6 t7 t8 t9 t10 t11 t12 t13
  have G4 := (Frm.refl No w4).al (.cells #[.int .i64 1, .bool false, .int .i64 0, .int .i64 0, .string ⟨#[]⟩, .int .i64 (y : Int), .int .i64 0, .slice p1 0 p1n, .slice p2 0 p2n, .slice p3 2 p3n] 30 (0, 0))
  refine (apply_gen T3.out (F := (fun x1 x2 x3 => .agg #[.int .i64 1, .bool false, .int .i64 0, .int .i64 0, .string ⟨#[]⟩, .int .i64 (y : Int), .int .i64 (-(y : Int)), x1, x2, x3])) (fun _ _ _ => rfl) (e := 0) (l := 0) (s := 2) rfl rfl rfl (RP.no G4) ⟨(by show 0 * 32 ≤ _; unfold reachBytes; omega), (by show 0 * 48 ≤ _; unfold reachBytes; omega), (by show 2 * 8 ≤ _; unfold reachBytes; omega)⟩ ⟨(by show 0 ≤ _; omega), (fun x hx => by cases hx), (fun x hx => by cases hx)⟩ (OB4.no G4) (opB_of (by show 1 ≤ 256; omega) (by show 1 ≤ 256; omega) (by show 1 ≤ 256; omega) (by show 0 ≤ 256; omega))).mono ?_
  rintro e w5 ⟨q1, q1n, q2, q2n, q3, q3n, rfl, ow5, fw5⟩
  have G4 := G4.trans fw5
  have F5 := F4.trans G4
  have D5 := G4.obj D4 id
  have A5 := G4.obj A4 id
  have B5 := G4.obj B4 id
  have OA5 := OA4.no G4
  have OB5 := OB4.no G4
  have RD5 := RD4.no G4
  have RQ := ow5.rd
  clear F4 D4 A4 B4 OA4 OB4 RD4 ow5 fw5 G4 T3 nA nB nD RP
  have nA := lt_of_block A5
  have nB := lt_of_block B5
  have nD := lt_of_block D5
  obtain ⟨q0, q1, q2, q3, q4, q5, q6, q7, q8, q9⟩ := obj10 D5
  obtain ⟨t0, t1, t2, t3, t4, t5, t6, t7, t8, t9, t10, t11, t12, t13⟩ := obj14 B5
  go_wp2_with (fail)
  clear q0 q1 q2 q3 q4 q5 q6 q7 q8 q9 t0 t1 t2 t3 t4 t5 t6 t7 t8 t9 t10 t11 t12 t13
  have G5 := (Frm.refl No w5).al (.cells #[.int .i64 1, .bool false, .int .i64 0, .int .i64 0, .string ⟨#[]⟩, .int .i64 (y : Int), .int .i64 (-(y : Int)), .slice q1 0 q1n, .slice q2 0 q2n, .slice q3 2 q3n] 30 (0, 0))
  refine (apply_gen T4.out (F := (fun x1 x2 x3 => .agg #[.int .i64 1, .bool false, .int .i64 0, .int .i64 0, .string ⟨#[]⟩, .int .i64 0, .int .i64 (-(y : Int)), x1, x2, x3])) (fun _ _ _ => rfl) (e := 0) (l := 0) (s := 2) rfl rfl rfl (RD5.no G5) ⟨(by show 0 * 32 ≤ _; unfold reachBytes; omega), (by show 0 * 48 ≤ _; unfold reachBytes; omega), (by show 2 * 8 ≤ _; unfold reachBytes; omega)⟩ ⟨(by show 0 ≤ _; omega), (fun x hx => by cases hx), (fun x hx => by cases hx)⟩ (OB5.no G5) (opB_of (by show 1 ≤ 256; omega) (by show 1 ≤ 256; omega) (by show 1 ≤ 256; omega) (by show 0 ≤ 256; omega))).mono ?_
  rintro e w6 ⟨r1, r1n, r2, r2n, r3, r3n, rfl, ow6, fw6⟩
  have Q5 := heap_alloc_new w5 (.cells #[.int .i64 1, .bool false, .int .i64 0, .int .i64 0, .string ⟨#[]⟩, .int .i64 (y : Int), .int .i64 (-(y : Int)), .slice q1 0 q1n, .slice q2 0 q2n, .slice q3 2 q3n] 30 (0, 0))
  have Q6 := fw6.obj Q5 id
  have G5 := G5.trans fw6
  have F6 := F5.trans G5
  have A6 := G5.obj A5 id
  have OA6 := OA5.no G5
  have RQ6 := RQ.no G5
  have RR := ow6.rd
  clear F5 D5 A5 B5 OA5 OB5 RD5 ow6 fw6 G5 T4 nA nB nD RQ Q5
  have nA := lt_of_block A6
  have nQ := lt_of_block Q6
  obtain ⟨t0, t1, t2, t3, t4, t5, t6, t7, t8, t9, t10, t11, t12, t13⟩ := obj14 A6
  go_wp2_with (fail)
  clear t0 t1 t2 t3 t4 t5 t6 t7 t8 t9 t10 t11 t12 t13
  have G6 := (Frm.refl No w6).al (.cells #[.int .i64 1, .bool false, .int .i64 0, .int .i64 0, .string ⟨#[]⟩, .int .i64 0, .int .i64 (-(y : Int)), .slice r1 0 r1n, .slice r2 0 r2n, .slice r3 2 r3n] 30 (0, 0))
  refine (apply_gen T5.out (F := (fun x1 x2 x3 => .agg #[.int .i64 1, .bool false, .int .i64 0, .int .i64 0, .string ⟨#[]⟩, .int .i64 (y : Int), .int .i64 (-(y : Int)), x1, x2, x3])) (fun _ _ _ => rfl) (e := 0) (l := 0) (s := 2) rfl rfl rfl (RR.no G6) ⟨(by show 0 * 32 ≤ _; unfold reachBytes; omega), (by show 0 * 48 ≤ _; unfold reachBytes; omega), (by show 2 * 8 ≤ _; unfold reachBytes; omega)⟩ ⟨(by show 0 ≤ _; omega), (fun x hx => by cases hx), (fun x hx => by cases hx)⟩ (OA6.no G6) (opB_of (by show 1 ≤ 256; omega) (by show 1 ≤ 256; omega) (by show 1 ≤ 256; omega) (by show 0 ≤ 256; omega))).mono ?_
  rintro e w7 ⟨s1, s1n, s2, s2n, s3, s3n, rfl, ow7, fw7⟩
  have Q7 := (G6.trans fw7).obj Q6 id
  have G6 := G6.trans fw7
  have F7 := F6.trans G6
  have RQ7 := RQ6.no G6
  have RS := ow7.rd
  clear F6 A6 OA6 ow7 fw7 G6 T5 nA nQ RQ6 RR Q6
  have nQ := lt_of_block Q7
  obtain ⟨q0, q1, q2, q3, q4, q5, q6, q7, q8, q9⟩ := obj10 Q7
  go_wp2_with (go_at_call 18; refine (num_ok _ _).mono ?_; rintro e w' ⟨rfl, rfl⟩)
  have G7 := (Frm.refl No w7).al (.cells #[.int .i64 1, .bool false, .int .i64 0, .int .i64 0, .string ⟨#[]⟩, .int .i64 (y : Int), .int .i64 (-(y : Int)), .slice s1 0 s1n, .slice s2 0 s2n, .slice s3 2 s3n] 30 (0, 0))
  refine (sameCell_ok (RQ7.no G7) (RS.no G7)).mono ?_
  rintro e w8 ⟨rfl, f8⟩
  have G7 := G7.trans f8
  have F8 := F7.trans G7
  have RQ8 := RQ7.no G7
  have Q8 := G7.obj Q7 id
  clear F7 RQ7 RS Q7 f8 G7 nQ
  clear q0 q1 q2 q3 q4 q5 q6 q7 q8 q9
  have nQ := lt_of_block Q8
  obtain ⟨q0, q1, q2, q3, q4, q5, q6, q7, q8, q9⟩ := obj10 Q8
  go_wp2_with (fail)
  have L8 : RdS (w8.alloc (.cells #[.int .i64 2, .int .i64 1] 3 (0, 0))) eInt (.slice (some ⟨w8.heap.size, 0, none⟩) 2 2) [2, 1] := RdS_lits w8 eInt [2, 1] 3 (g := w8.heap.size) (n := 2) rfl rfl (by decide)
  refine (sameInts_ok (RQ8.s.no ((Frm.refl No w8).al _)) L8).mono ?_
  rintro e w9 ⟨rfl, k, hw9⟩
  have G8 : Frm No w8 w9 := by rw [hw9]; exact ((Frm.refl No w8).al _).dr k
  clear hw9
  rw [show decide ((c1 ((y : Int), -(y : Int)) [2, 1]).seen = [2, 1]) = true from rfl]
  go_wp2_with (fail)
  go_ret
  exact ⟨rfl, F8.trans G8⟩
end Go.Proofs.YtofikfkgiblblaaGreatDoor

/- tattlelaw12.CellTwo, one of its six ways. -/
namespace Go.Proofs.YtofikfkgiblblaaGreatDoor
set_option linter.unusedVariables false
set_option linter.unusedSimpArgs false
open Go.RowKit Go.Lib Go.Tt Go.Shelf
set_option maxHeartbeats 8000000 in
set_option maxRecDepth 100000 in
theorem ltwo2 {w0 : World} (tab : Tab w0) (kind x : Int) (hk : (IntKind.u64.wrap kind).tmod 4 = 2) {v w : ByteArray} (hv : v.size ≤ 256) (hw : w.size ≤ 256) (hx : bits .and .i64 x 1 = 0) :
    Calls Tryz.prog 8 #[.int .i64 kind, .string v, .string w, .int .i64 x] w0 fun e w' => e = .returned (.bool true) ∧ Frm No w0 w' := by
  obtain ⟨T1, T2, T3, T4, T5, T6⟩ := two2 hv hw
  replace T1 := Lib.hid T1
  replace T2 := Lib.hid T2
  replace T3 := Lib.hid T3
  replace T4 := Lib.hid T4
  replace T5 := Lib.hid T5
  clear T6
  have HV := Lib.hid hv
  have HW := Lib.hid hw
  have g1 : ¬ (256 < (v.size : Int)) := by omega
  have g2 : ¬ (256 < (w.size : Int)) := by omega
  have HA := Lib.hid (awake_ok tab)
  clear hv hw tab
  go_enter Tryz.func8, Tryz.ntmps8
  go_wp2_with (fail)
  refine HA.out.mono ?_
  rintro e w1 ⟨rfl, F1⟩
  clear HA
  go_wp2_with (fail)
  refine (new_gen (F := (fun x1 x2 x3 => .agg #[.int .i64 2, .bool false, .int .i64 0, .int .i64 0, .string ⟨#[]⟩, .int .i64 0, .int .i64 0, x1, x2, x3])) (show newF 2 2 = (newC 2 2, 0) from rfl) (fun _ _ _ => rfl) (e := 0) (l := 0) (s := 2) rfl rfl rfl w1).mono ?_
  rintro e w2 ⟨a1, a1n, a2, a2n, a3, a3n, rfl, r2, f2⟩
  have F2 := F1.trans f2
  clear F1 f2
  go_wp2_with (fail)
  have FX : Frm No w2 ((((w2.alloc (.cells #[.int .i64 2, .bool false, .int .i64 0, .int .i64 0, .string ⟨#[]⟩, .int .i64 0, .int .i64 0, .slice a1 0 a1n, .slice a2 0 a2n, .slice a3 2 a3n] 30 (0, 0))).alloc (.cells #[.int .i64 0, .int .i64 0] 3 (0, 0))).alloc (.cells #[.int .i64 0, .int .i64 1, .int .i64 2, .int .i64 4] 3 (0, 0))).alloc (.cells #[.int .i64 0, .int .i64 1, .int .i64 1, .slice (some ⟨w2.heap.size + 1, 0, none⟩) 2 2, .int .i64 2, .string ⟨#[84]⟩, .string ⟨#[105]⟩, .string ⟨#[102]⟩, .string v, .int .i64 0, .int .i64 0, .int .i64 0, .int .i64 0, .slice none 0 0] 35 (0, 0))) := ((((Frm.refl No w2).al _).al _).al _).al _
  have ZX : ((((w2.alloc (.cells #[.int .i64 2, .bool false, .int .i64 0, .int .i64 0, .string ⟨#[]⟩, .int .i64 0, .int .i64 0, .slice a1 0 a1n, .slice a2 0 a2n, .slice a3 2 a3n] 30 (0, 0))).alloc (.cells #[.int .i64 0, .int .i64 0] 3 (0, 0))).alloc (.cells #[.int .i64 0, .int .i64 1, .int .i64 2, .int .i64 4] 3 (0, 0))).alloc (.cells #[.int .i64 0, .int .i64 1, .int .i64 1, .slice (some ⟨w2.heap.size + 1, 0, none⟩) 2 2, .int .i64 2, .string ⟨#[84]⟩, .string ⟨#[105]⟩, .string ⟨#[102]⟩, .string v, .int .i64 0, .int .i64 0, .int .i64 0, .int .i64 0, .slice none 0 0] 35 (0, 0))).heap[w2.heap.size + 1 + 1 + 1]? = some (.cells #[.int .i64 0, .int .i64 1, .int .i64 1, .slice (some ⟨w2.heap.size + 1, 0, none⟩) 2 2, .int .i64 2, .string ⟨#[84]⟩, .string ⟨#[105]⟩, .string ⟨#[102]⟩, .string v, .int .i64 0, .int .i64 0, .int .i64 0, .int .i64 0, .slice none 0 0] 35 (0, 0)) := al_at (by simp)
  have LX : ((((w2.alloc (.cells #[.int .i64 2, .bool false, .int .i64 0, .int .i64 0, .string ⟨#[]⟩, .int .i64 0, .int .i64 0, .slice a1 0 a1n, .slice a2 0 a2n, .slice a3 2 a3n] 30 (0, 0))).alloc (.cells #[.int .i64 0, .int .i64 0] 3 (0, 0))).alloc (.cells #[.int .i64 0, .int .i64 1, .int .i64 2, .int .i64 4] 3 (0, 0))).alloc (.cells #[.int .i64 0, .int .i64 1, .int .i64 1, .slice (some ⟨w2.heap.size + 1, 0, none⟩) 2 2, .int .i64 2, .string ⟨#[84]⟩, .string ⟨#[105]⟩, .string ⟨#[102]⟩, .string v, .int .i64 0, .int .i64 0, .int .i64 0, .int .i64 0, .slice none 0 0] 35 (0, 0))).heap[w2.heap.size + 1]? = some (.cells #[.int .i64 0, .int .i64 0] 3 (0, 0)) := al_old (al_old (al_at (by simp)))
  have zX : ((((w2.alloc (.cells #[.int .i64 2, .bool false, .int .i64 0, .int .i64 0, .string ⟨#[]⟩, .int .i64 0, .int .i64 0, .slice a1 0 a1n, .slice a2 0 a2n, .slice a3 2 a3n] 30 (0, 0))).alloc (.cells #[.int .i64 0, .int .i64 0] 3 (0, 0))).alloc (.cells #[.int .i64 0, .int .i64 1, .int .i64 2, .int .i64 4] 3 (0, 0))).alloc (.cells #[.int .i64 0, .int .i64 1, .int .i64 1, .slice (some ⟨w2.heap.size + 1, 0, none⟩) 2 2, .int .i64 2, .string ⟨#[84]⟩, .string ⟨#[105]⟩, .string ⟨#[102]⟩, .string v, .int .i64 0, .int .i64 0, .int .i64 0, .int .i64 0, .slice none 0 0] 35 (0, 0))).heap.size = w2.heap.size + 1 + 1 + 1 + 1 := by simp
  have R2 := r2.no FX
  have FX := F2.trans FX
  clear r2 F2
  revert FX ZX LX zX R2
  generalize ((((w2.alloc (.cells #[.int .i64 2, .bool false, .int .i64 0, .int .i64 0, .string ⟨#[]⟩, .int .i64 0, .int .i64 0, .slice a1 0 a1n, .slice a2 0 a2n, .slice a3 2 a3n] 30 (0, 0))).alloc (.cells #[.int .i64 0, .int .i64 0] 3 (0, 0))).alloc (.cells #[.int .i64 0, .int .i64 1, .int .i64 2, .int .i64 4] 3 (0, 0))).alloc (.cells #[.int .i64 0, .int .i64 1, .int .i64 1, .slice (some ⟨w2.heap.size + 1, 0, none⟩) 2 2, .int .i64 2, .string ⟨#[84]⟩, .string ⟨#[105]⟩, .string ⟨#[102]⟩, .string v, .int .i64 0, .int .i64 0, .int .i64 0, .int .i64 0, .slice none 0 0] 35 (0, 0))) = X
  intro ZX LX zX R2 FX
  have DX : Ow X (fun k => k = w2.heap.size + 1) 3 eInt (.slice (some ⟨w2.heap.size + 1, 0, none⟩) 2 2) [0, 0] := Ow.row (l := [0, 0]) (c := 2) LX rfl (by decide) (by decide) rfl rfl
  refine (apply_gen T1.out (F := (fun x1 x2 x3 => .agg #[.int .i64 2, .bool false, .int .i64 0, .int .i64 0, .string ⟨#[]⟩, .int .i64 0, .int .i64 0, x1, x2, x3])) (fun _ _ _ => rfl) (e := 1) (l := 0) (s := 2) rfl rfl rfl R2 ⟨(by show 0 * 32 ≤ _; unfold reachBytes; omega), (by show 0 * 48 ≤ _; unfold reachBytes; omega), (by show 2 * 8 ≤ _; unfold reachBytes; omega)⟩ ⟨(by show 0 ≤ _; omega), (fun x hx => by cases hx), (fun x hx => by cases hx)⟩ ⟨DX.rd, RdS.nil _ _⟩ (opB_of (by show 1 ≤ 256; omega) (by show 1 ≤ 256; omega) (by show 1 ≤ 256; omega) HV.out)).mono ?_
  rintro e w3 ⟨d1, d1n, d2, d2n, d3, d3n, rfl, o3, f3⟩
  have F3 := FX.trans f3
  have Z3 := f3.obj ZX id
  have RD := o3.rd
  clear T1 FX ZX LX zX R2 DX o3 f3
  have n3 := lt_of_block Z3
  have n3a : w2.heap.size + 1 + 1 + 1 < w3.heap.size + 1 := by omega
  have n3b : w2.heap.size + 1 + 1 + 1 < w3.heap.size + 1 + 1 := by omega
  have n3c : w2.heap.size + 1 + 1 + 1 < w3.heap.size + 1 + 1 + 1 := by omega
  have n3d : w2.heap.size + 1 + 1 + 1 < w3.heap.size + 1 + 1 + 1 + 1 := by omega
  obtain ⟨t0, t1, t2, t3, t4, t5, t6, t7, t8, t9, t10, t11, t12, t13⟩ := obj14 Z3
  go_wp2_with (fail)

  have FY0 : Frm No w3 (((((w3.alloc (.cells #[.int .i64 2, .bool false, .int .i64 0, .int .i64 0, .string ⟨#[]⟩, .int .i64 0, .int .i64 0, .slice d1 1 d1n, .slice d2 0 d2n, .slice d3 2 d3n] 30 (0, 0))).alloc (.cells #[.int .i64 1, .int .i64 0] 3 (0, 0))).alloc (.cells #[.int .i64 0, .int .i64 2, .int .i64 2, .slice (some ⟨w3.heap.size + 1, 0, none⟩) 2 2, .int .i64 2, .string ⟨#[84]⟩, .string ⟨#[105]⟩, .string ⟨#[102]⟩, .string w, .int .i64 0, .int .i64 0, .int .i64 0, .int .i64 0, .slice none 0 0] 35 (0, 0))).alloc (.cells #[.int .i64 1, .int .i64 0] 3 (0, 0))).alloc (.cells #[.int .i64 1, .int .i64 1, .int .i64 2, .slice (some ⟨w3.heap.size + 1 + 1 + 1, 0, none⟩) 2 2, .int .i64 2, .string ⟨#[84]⟩, .string ⟨#[105]⟩, .string ⟨#[102]⟩, .string v, .int .i64 0, .int .i64 0, .int .i64 0, .int .i64 0, .slice none 0 0] 35 (0, 0))) := (((((Frm.refl No w3).al _).al _).al _).al _).al _
  have hD : (((((w3.alloc (.cells #[.int .i64 2, .bool false, .int .i64 0, .int .i64 0, .string ⟨#[]⟩, .int .i64 0, .int .i64 0, .slice d1 1 d1n, .slice d2 0 d2n, .slice d3 2 d3n] 30 (0, 0))).alloc (.cells #[.int .i64 1, .int .i64 0] 3 (0, 0))).alloc (.cells #[.int .i64 0, .int .i64 2, .int .i64 2, .slice (some ⟨w3.heap.size + 1, 0, none⟩) 2 2, .int .i64 2, .string ⟨#[84]⟩, .string ⟨#[105]⟩, .string ⟨#[102]⟩, .string w, .int .i64 0, .int .i64 0, .int .i64 0, .int .i64 0, .slice none 0 0] 35 (0, 0))).alloc (.cells #[.int .i64 1, .int .i64 0] 3 (0, 0))).alloc (.cells #[.int .i64 1, .int .i64 1, .int .i64 2, .slice (some ⟨w3.heap.size + 1 + 1 + 1, 0, none⟩) 2 2, .int .i64 2, .string ⟨#[84]⟩, .string ⟨#[105]⟩, .string ⟨#[102]⟩, .string v, .int .i64 0, .int .i64 0, .int .i64 0, .int .i64 0, .slice none 0 0] 35 (0, 0))).heap[w3.heap.size]? = some (.cells #[.int .i64 2, .bool false, .int .i64 0, .int .i64 0, .string ⟨#[]⟩, .int .i64 0, .int .i64 0, .slice d1 1 d1n, .slice d2 0 d2n, .slice d3 2 d3n] 30 (0, 0)) := al_old (al_old (al_old (al_old (heap_alloc_new w3 _))))
  have hL : (((((w3.alloc (.cells #[.int .i64 2, .bool false, .int .i64 0, .int .i64 0, .string ⟨#[]⟩, .int .i64 0, .int .i64 0, .slice d1 1 d1n, .slice d2 0 d2n, .slice d3 2 d3n] 30 (0, 0))).alloc (.cells #[.int .i64 1, .int .i64 0] 3 (0, 0))).alloc (.cells #[.int .i64 0, .int .i64 2, .int .i64 2, .slice (some ⟨w3.heap.size + 1, 0, none⟩) 2 2, .int .i64 2, .string ⟨#[84]⟩, .string ⟨#[105]⟩, .string ⟨#[102]⟩, .string w, .int .i64 0, .int .i64 0, .int .i64 0, .int .i64 0, .slice none 0 0] 35 (0, 0))).alloc (.cells #[.int .i64 1, .int .i64 0] 3 (0, 0))).alloc (.cells #[.int .i64 1, .int .i64 1, .int .i64 2, .slice (some ⟨w3.heap.size + 1 + 1 + 1, 0, none⟩) 2 2, .int .i64 2, .string ⟨#[84]⟩, .string ⟨#[105]⟩, .string ⟨#[102]⟩, .string v, .int .i64 0, .int .i64 0, .int .i64 0, .int .i64 0, .slice none 0 0] 35 (0, 0))).heap[w3.heap.size + 1]? = some (.cells #[.int .i64 1, .int .i64 0] 3 (0, 0)) := al_old (al_old (al_old (al_at (by simp))))
  have hA : (((((w3.alloc (.cells #[.int .i64 2, .bool false, .int .i64 0, .int .i64 0, .string ⟨#[]⟩, .int .i64 0, .int .i64 0, .slice d1 1 d1n, .slice d2 0 d2n, .slice d3 2 d3n] 30 (0, 0))).alloc (.cells #[.int .i64 1, .int .i64 0] 3 (0, 0))).alloc (.cells #[.int .i64 0, .int .i64 2, .int .i64 2, .slice (some ⟨w3.heap.size + 1, 0, none⟩) 2 2, .int .i64 2, .string ⟨#[84]⟩, .string ⟨#[105]⟩, .string ⟨#[102]⟩, .string w, .int .i64 0, .int .i64 0, .int .i64 0, .int .i64 0, .slice none 0 0] 35 (0, 0))).alloc (.cells #[.int .i64 1, .int .i64 0] 3 (0, 0))).alloc (.cells #[.int .i64 1, .int .i64 1, .int .i64 2, .slice (some ⟨w3.heap.size + 1 + 1 + 1, 0, none⟩) 2 2, .int .i64 2, .string ⟨#[84]⟩, .string ⟨#[105]⟩, .string ⟨#[102]⟩, .string v, .int .i64 0, .int .i64 0, .int .i64 0, .int .i64 0, .slice none 0 0] 35 (0, 0))).heap[w3.heap.size + 1 + 1]? = some (.cells #[.int .i64 0, .int .i64 2, .int .i64 2, .slice (some ⟨w3.heap.size + 1, 0, none⟩) 2 2, .int .i64 2, .string ⟨#[84]⟩, .string ⟨#[105]⟩, .string ⟨#[102]⟩, .string w, .int .i64 0, .int .i64 0, .int .i64 0, .int .i64 0, .slice none 0 0] 35 (0, 0)) := al_old (al_old (al_at (by simp)))
  have hM : (((((w3.alloc (.cells #[.int .i64 2, .bool false, .int .i64 0, .int .i64 0, .string ⟨#[]⟩, .int .i64 0, .int .i64 0, .slice d1 1 d1n, .slice d2 0 d2n, .slice d3 2 d3n] 30 (0, 0))).alloc (.cells #[.int .i64 1, .int .i64 0] 3 (0, 0))).alloc (.cells #[.int .i64 0, .int .i64 2, .int .i64 2, .slice (some ⟨w3.heap.size + 1, 0, none⟩) 2 2, .int .i64 2, .string ⟨#[84]⟩, .string ⟨#[105]⟩, .string ⟨#[102]⟩, .string w, .int .i64 0, .int .i64 0, .int .i64 0, .int .i64 0, .slice none 0 0] 35 (0, 0))).alloc (.cells #[.int .i64 1, .int .i64 0] 3 (0, 0))).alloc (.cells #[.int .i64 1, .int .i64 1, .int .i64 2, .slice (some ⟨w3.heap.size + 1 + 1 + 1, 0, none⟩) 2 2, .int .i64 2, .string ⟨#[84]⟩, .string ⟨#[105]⟩, .string ⟨#[102]⟩, .string v, .int .i64 0, .int .i64 0, .int .i64 0, .int .i64 0, .slice none 0 0] 35 (0, 0))).heap[w3.heap.size + 1 + 1 + 1]? = some (.cells #[.int .i64 1, .int .i64 0] 3 (0, 0)) := al_old (al_at (by simp))
  have hB : (((((w3.alloc (.cells #[.int .i64 2, .bool false, .int .i64 0, .int .i64 0, .string ⟨#[]⟩, .int .i64 0, .int .i64 0, .slice d1 1 d1n, .slice d2 0 d2n, .slice d3 2 d3n] 30 (0, 0))).alloc (.cells #[.int .i64 1, .int .i64 0] 3 (0, 0))).alloc (.cells #[.int .i64 0, .int .i64 2, .int .i64 2, .slice (some ⟨w3.heap.size + 1, 0, none⟩) 2 2, .int .i64 2, .string ⟨#[84]⟩, .string ⟨#[105]⟩, .string ⟨#[102]⟩, .string w, .int .i64 0, .int .i64 0, .int .i64 0, .int .i64 0, .slice none 0 0] 35 (0, 0))).alloc (.cells #[.int .i64 1, .int .i64 0] 3 (0, 0))).alloc (.cells #[.int .i64 1, .int .i64 1, .int .i64 2, .slice (some ⟨w3.heap.size + 1 + 1 + 1, 0, none⟩) 2 2, .int .i64 2, .string ⟨#[84]⟩, .string ⟨#[105]⟩, .string ⟨#[102]⟩, .string v, .int .i64 0, .int .i64 0, .int .i64 0, .int .i64 0, .slice none 0 0] 35 (0, 0))).heap[w3.heap.size + 1 + 1 + 1 + 1]? = some (.cells #[.int .i64 1, .int .i64 1, .int .i64 2, .slice (some ⟨w3.heap.size + 1 + 1 + 1, 0, none⟩) 2 2, .int .i64 2, .string ⟨#[84]⟩, .string ⟨#[105]⟩, .string ⟨#[102]⟩, .string v, .int .i64 0, .int .i64 0, .int .i64 0, .int .i64 0, .slice none 0 0] 35 (0, 0)) := al_at (by simp)
  have RD0 := RD.no FY0
  have FY := F3.trans FY0
  clear F3 RD FY0 Z3 n3 n3a n3b n3c n3d t0 t1 t2 t3 t4 t5 t6 t7 t8 t9 t10 t11 t12 t13
  revert hD hL hA hM hB RD0 FY
  generalize (((((w3.alloc (.cells #[.int .i64 2, .bool false, .int .i64 0, .int .i64 0, .string ⟨#[]⟩, .int .i64 0, .int .i64 0, .slice d1 1 d1n, .slice d2 0 d2n, .slice d3 2 d3n] 30 (0, 0))).alloc (.cells #[.int .i64 1, .int .i64 0] 3 (0, 0))).alloc (.cells #[.int .i64 0, .int .i64 2, .int .i64 2, .slice (some ⟨w3.heap.size + 1, 0, none⟩) 2 2, .int .i64 2, .string ⟨#[84]⟩, .string ⟨#[105]⟩, .string ⟨#[102]⟩, .string w, .int .i64 0, .int .i64 0, .int .i64 0, .int .i64 0, .slice none 0 0] 35 (0, 0))).alloc (.cells #[.int .i64 1, .int .i64 0] 3 (0, 0))).alloc (.cells #[.int .i64 1, .int .i64 1, .int .i64 2, .slice (some ⟨w3.heap.size + 1 + 1 + 1, 0, none⟩) 2 2, .int .i64 2, .string ⟨#[84]⟩, .string ⟨#[105]⟩, .string ⟨#[102]⟩, .string v, .int .i64 0, .int .i64 0, .int .i64 0, .int .i64 0, .slice none 0 0] 35 (0, 0))) = Y
  intro hD hL hA hM hB RD0 FY
  have hLA : Ow Y (fun k => k = w3.heap.size + 1) 3 eInt (.slice (some ⟨w3.heap.size + 1, 0, none⟩) 2 2) [1, 0] := Ow.row (l := [1, 0]) (c := 2) hL rfl (by decide) (by decide) rfl rfl
  have hLB : Ow Y (fun k => k = w3.heap.size + 1 + 1 + 1) 3 eInt (.slice (some ⟨w3.heap.size + 1 + 1 + 1, 0, none⟩) 2 2) [1, 0] := Ow.row (l := [1, 0]) (c := 2) hM rfl (by decide) (by decide) rfl rfl
  have OA : OpR Y (opP 2 w (0, 0) (0, 0)) (.slice (some ⟨w3.heap.size + 1, 0, none⟩) 2 2) (.slice none 0 0) := ⟨hLA.rd, RdS.nil _ _⟩
  have OB : OpR Y (opQ 2 v (0, 0) (0, 0) []) (.slice (some ⟨w3.heap.size + 1 + 1 + 1, 0, none⟩) 2 2) (.slice none 0 0) := ⟨hLB.rd, RdS.nil _ _⟩
  clear hL hM hLA hLB 
  refine (apply_gen T2.out (F := (fun x1 x2 x3 => .agg #[.int .i64 2, .bool false, .int .i64 0, .int .i64 0, .string ⟨#[]⟩, .int .i64 0, .int .i64 0, x1, x2, x3])) (fun _ _ _ => rfl) (e := 2) (l := 0) (s := 2) rfl rfl rfl RD0 ⟨(by show 1 * 32 ≤ _; unfold reachBytes; omega), (by show 0 * 48 ≤ _; unfold reachBytes; omega), (by show 2 * 8 ≤ _; unfold reachBytes; omega)⟩ ⟨(by show 0 ≤ _; omega), (fun x hx => by have h1 := HV.out; have h2 := HW.out; simp only [c2, List.mem_cons, List.not_mem_nil, or_false] at hx; (try rcases hx with rfl | rfl | rfl) <;> (try rcases hx with rfl | rfl) <;> (try subst hx) <;> first | exact small_of HV.out | exact small_of HW.out | exact small_of (show (0 : Nat) ≤ 256 by omega) | exact hx.elim), (fun x hx => by cases hx)⟩ OA (opB_of (by show 1 ≤ 256; omega) (by show 1 ≤ 256; omega) (by show 1 ≤ 256; omega) HW.out)).mono ?_
  rintro e w4 ⟨p1, p1n, p2, p2n, p3, p3n, rfl, ow4, fw4⟩
  have F4 := FY.trans fw4
  have D4 := fw4.obj hD id
  have A4 := fw4.obj hA id
  have B4 := fw4.obj hB id
  have OA4 := OA.no fw4
  have OB4 := OB.no fw4
  have RD4 := RD0.no fw4
  have RP := ow4.rd
  clear FY hD hA hB OA OB RD0 ow4 fw4 T2
  have nA := lt_of_block A4
  have nB := lt_of_block B4
  have nD := lt_of_block D4
  obtain ⟨t0, t1, t2, t3, t4, t5, t6, t7, t8, t9, t10, t11, t12, t13⟩ := obj14 B4
  go_wp2_with (fail)
  clear t0 t1 t2 t3 t4 t5 t6 t7 t8 t9 t10 t11 t12 t13
  have G4 := (Frm.refl No w4).al (.cells #[.int .i64 2, .bool false, .int .i64 0, .int .i64 0, .string ⟨#[]⟩, .int .i64 0, .int .i64 0, .slice p1 2 p1n, .slice p2 0 p2n, .slice p3 2 p3n] 30 (0, 0))
  refine (apply_gen T3.out (F := (fun x1 x2 x3 => .agg #[.int .i64 2, .bool false, .int .i64 0, .int .i64 0, .string ⟨#[]⟩, .int .i64 0, .int .i64 0, x1, x2, x3])) (fun _ _ _ => rfl) (e := 3) (l := 0) (s := 2) rfl rfl rfl (RP.no G4) ⟨(by show 2 * 32 ≤ _; unfold reachBytes; omega), (by show 0 * 48 ≤ _; unfold reachBytes; omega), (by show 2 * 8 ≤ _; unfold reachBytes; omega)⟩ ⟨(by show 0 ≤ _; omega), (fun x hx => by have h1 := HV.out; have h2 := HW.out; simp only [c2, List.mem_cons, List.not_mem_nil, or_false] at hx; (try rcases hx with rfl | rfl | rfl) <;> (try rcases hx with rfl | rfl) <;> (try subst hx) <;> first | exact small_of HV.out | exact small_of HW.out | exact small_of (show (0 : Nat) ≤ 256 by omega) | exact hx.elim), (fun x hx => by cases hx)⟩ (OB4.no G4) (opB_of (by show 1 ≤ 256; omega) (by show 1 ≤ 256; omega) (by show 1 ≤ 256; omega) HV.out)).mono ?_
  rintro e w5 ⟨q1, q1n, q2, q2n, q3, q3n, rfl, ow5, fw5⟩
  have G4 := G4.trans fw5
  have F5 := F4.trans G4
  have D5 := G4.obj D4 id
  have A5 := G4.obj A4 id
  have B5 := G4.obj B4 id
  have OA5 := OA4.no G4
  have OB5 := OB4.no G4
  have RD5 := RD4.no G4
  have RQ := ow5.rd
  clear F4 D4 A4 B4 OA4 OB4 RD4 ow5 fw5 G4 T3 nA nB nD RP
  have nA := lt_of_block A5
  have nB := lt_of_block B5
  have nD := lt_of_block D5
  obtain ⟨q0, q1, q2, q3, q4, q5, q6, q7, q8, q9⟩ := obj10 D5
  obtain ⟨t0, t1, t2, t3, t4, t5, t6, t7, t8, t9, t10, t11, t12, t13⟩ := obj14 B5
  go_wp2_with (fail)
  clear q0 q1 q2 q3 q4 q5 q6 q7 q8 q9 t0 t1 t2 t3 t4 t5 t6 t7 t8 t9 t10 t11 t12 t13
  have G5 := (Frm.refl No w5).al (.cells #[.int .i64 2, .bool false, .int .i64 0, .int .i64 0, .string ⟨#[]⟩, .int .i64 0, .int .i64 0, .slice q1 3 q1n, .slice q2 0 q2n, .slice q3 2 q3n] 30 (0, 0))
  refine (apply_gen T4.out (F := (fun x1 x2 x3 => .agg #[.int .i64 2, .bool false, .int .i64 0, .int .i64 0, .string ⟨#[]⟩, .int .i64 0, .int .i64 0, x1, x2, x3])) (fun _ _ _ => rfl) (e := 2) (l := 0) (s := 2) rfl rfl rfl (RD5.no G5) ⟨(by show 1 * 32 ≤ _; unfold reachBytes; omega), (by show 0 * 48 ≤ _; unfold reachBytes; omega), (by show 2 * 8 ≤ _; unfold reachBytes; omega)⟩ ⟨(by show 0 ≤ _; omega), (fun x hx => by have h1 := HV.out; have h2 := HW.out; simp only [c2, List.mem_cons, List.not_mem_nil, or_false] at hx; (try rcases hx with rfl | rfl | rfl) <;> (try rcases hx with rfl | rfl) <;> (try subst hx) <;> first | exact small_of HV.out | exact small_of HW.out | exact small_of (show (0 : Nat) ≤ 256 by omega) | exact hx.elim), (fun x hx => by cases hx)⟩ (OB5.no G5) (opB_of (by show 1 ≤ 256; omega) (by show 1 ≤ 256; omega) (by show 1 ≤ 256; omega) HV.out)).mono ?_
  rintro e w6 ⟨r1, r1n, r2, r2n, r3, r3n, rfl, ow6, fw6⟩
  have Q5 := heap_alloc_new w5 (.cells #[.int .i64 2, .bool false, .int .i64 0, .int .i64 0, .string ⟨#[]⟩, .int .i64 0, .int .i64 0, .slice q1 3 q1n, .slice q2 0 q2n, .slice q3 2 q3n] 30 (0, 0))
  have Q6 := fw6.obj Q5 id
  have G5 := G5.trans fw6
  have F6 := F5.trans G5
  have A6 := G5.obj A5 id
  have OA6 := OA5.no G5
  have RQ6 := RQ.no G5
  have RR := ow6.rd
  clear F5 D5 A5 B5 OA5 OB5 RD5 ow6 fw6 G5 T4 nA nB nD RQ Q5
  have nA := lt_of_block A6
  have nQ := lt_of_block Q6
  obtain ⟨t0, t1, t2, t3, t4, t5, t6, t7, t8, t9, t10, t11, t12, t13⟩ := obj14 A6
  go_wp2_with (fail)
  clear t0 t1 t2 t3 t4 t5 t6 t7 t8 t9 t10 t11 t12 t13
  have G6 := (Frm.refl No w6).al (.cells #[.int .i64 2, .bool false, .int .i64 0, .int .i64 0, .string ⟨#[]⟩, .int .i64 0, .int .i64 0, .slice r1 2 r1n, .slice r2 0 r2n, .slice r3 2 r3n] 30 (0, 0))
  refine (apply_gen T5.out (F := (fun x1 x2 x3 => .agg #[.int .i64 2, .bool false, .int .i64 0, .int .i64 0, .string ⟨#[]⟩, .int .i64 0, .int .i64 0, x1, x2, x3])) (fun _ _ _ => rfl) (e := 3) (l := 0) (s := 2) rfl rfl rfl (RR.no G6) ⟨(by show 2 * 32 ≤ _; unfold reachBytes; omega), (by show 0 * 48 ≤ _; unfold reachBytes; omega), (by show 2 * 8 ≤ _; unfold reachBytes; omega)⟩ ⟨(by show 0 ≤ _; omega), (fun x hx => by have h1 := HV.out; have h2 := HW.out; simp only [c2, List.mem_cons, List.not_mem_nil, or_false] at hx; (try rcases hx with rfl | rfl | rfl) <;> (try rcases hx with rfl | rfl) <;> (try subst hx) <;> first | exact small_of HV.out | exact small_of HW.out | exact small_of (show (0 : Nat) ≤ 256 by omega) | exact hx.elim), (fun x hx => by cases hx)⟩ (OA6.no G6) (opB_of (by show 1 ≤ 256; omega) (by show 1 ≤ 256; omega) (by show 1 ≤ 256; omega) HW.out)).mono ?_
  rintro e w7 ⟨s1, s1n, s2, s2n, s3, s3n, rfl, ow7, fw7⟩
  have Q7 := (G6.trans fw7).obj Q6 id
  have G6 := G6.trans fw7
  have F7 := F6.trans G6
  have RQ7 := RQ6.no G6
  have RS := ow7.rd
  clear F6 A6 OA6 ow7 fw7 G6 T5 nA nQ RQ6 RR Q6
  have nQ := lt_of_block Q7
  obtain ⟨q0, q1, q2, q3, q4, q5, q6, q7, q8, q9⟩ := obj10 Q7
  go_wp2_with (go_at_call 18; refine (num_ok _ _).mono ?_; rintro e w' ⟨rfl, rfl⟩)
  have G7 := (Frm.refl No w7).al (.cells #[.int .i64 2, .bool false, .int .i64 0, .int .i64 0, .string ⟨#[]⟩, .int .i64 0, .int .i64 0, .slice s1 3 s1n, .slice s2 0 s2n, .slice s3 2 s3n] 30 (0, 0))
  refine (sameCell_ok (RQ7.no G7) (RS.no G7)).mono ?_
  rintro e w8 ⟨rfl, f8⟩
  have G7 := G7.trans f8
  have F8 := F7.trans G7
  have RQ8 := RQ7.no G7
  have Q8 := G7.obj Q7 id
  clear F7 RQ7 RS Q7 f8 G7 nQ
  clear q0 q1 q2 q3 q4 q5 q6 q7 q8 q9
  have nQ := lt_of_block Q8
  obtain ⟨q0, q1, q2, q3, q4, q5, q6, q7, q8, q9⟩ := obj10 Q8
  go_wp2_with (fail)
  have L8 : RdS (w8.alloc (.cells #[.int .i64 2, .int .i64 1] 3 (0, 0))) eInt (.slice (some ⟨w8.heap.size, 0, none⟩) 2 2) [2, 1] := RdS_lits w8 eInt [2, 1] 3 (g := w8.heap.size) (n := 2) rfl rfl (by decide)
  refine (sameInts_ok (RQ8.s.no ((Frm.refl No w8).al _)) L8).mono ?_
  rintro e w9 ⟨rfl, k, hw9⟩
  have G8 : Frm No w8 w9 := by rw [hw9]; exact ((Frm.refl No w8).al _).dr k
  clear hw9
  rw [show decide ((c2 [(0, 1, v), (0, 2, w), (1, 1, v)] [2, 1]).seen = [2, 1]) = true from rfl]
  go_wp2_with (fail)
  go_ret
  exact ⟨rfl, F8.trans G8⟩
end Go.Proofs.YtofikfkgiblblaaGreatDoor

/- tattlelaw12.CellTwo, one of its six ways. -/
namespace Go.Proofs.YtofikfkgiblblaaGreatDoor
set_option linter.unusedVariables false
set_option linter.unusedSimpArgs false
open Go.RowKit Go.Lib Go.Tt Go.Shelf
set_option maxHeartbeats 8000000 in
set_option maxRecDepth 100000 in
theorem ltwo2o {w0 : World} (tab : Tab w0) (kind x : Int) (hk : (IntKind.u64.wrap kind).tmod 4 = 2) {v w : ByteArray} (hv : v.size ≤ 256) (hw : w.size ≤ 256) (hx : bits .and .i64 x 1 = 1) :
    Calls Tryz.prog 8 #[.int .i64 kind, .string v, .string w, .int .i64 x] w0 fun e w' => e = .returned (.bool true) ∧ Frm No w0 w' := by
  obtain ⟨T1, T2, T3, T4, T5, T6⟩ := two2' hv hw
  replace T1 := Lib.hid T1
  replace T2 := Lib.hid T2
  replace T3 := Lib.hid T3
  replace T4 := Lib.hid T4
  replace T5 := Lib.hid T5
  clear T6
  have HV := Lib.hid hv
  have HW := Lib.hid hw
  have g1 : ¬ (256 < (v.size : Int)) := by omega
  have g2 : ¬ (256 < (w.size : Int)) := by omega
  have HA := Lib.hid (awake_ok tab)
  clear hv hw tab
  go_enter Tryz.func8, Tryz.ntmps8
  go_wp2_with (fail)
  refine HA.out.mono ?_
  rintro e w1 ⟨rfl, F1⟩
  clear HA
  go_wp2_with (fail)
  refine (new_gen (F := (fun x1 x2 x3 => .agg #[.int .i64 2, .bool false, .int .i64 0, .int .i64 0, .string ⟨#[]⟩, .int .i64 0, .int .i64 0, x1, x2, x3])) (show newF 2 2 = (newC 2 2, 0) from rfl) (fun _ _ _ => rfl) (e := 0) (l := 0) (s := 2) rfl rfl rfl w1).mono ?_
  rintro e w2 ⟨a1, a1n, a2, a2n, a3, a3n, rfl, r2, f2⟩
  have F2 := F1.trans f2
  clear F1 f2
  go_wp2_with (fail)
  have FX : Frm No w2 ((((w2.alloc (.cells #[.int .i64 2, .bool false, .int .i64 0, .int .i64 0, .string ⟨#[]⟩, .int .i64 0, .int .i64 0, .slice a1 0 a1n, .slice a2 0 a2n, .slice a3 2 a3n] 30 (0, 0))).alloc (.cells #[.int .i64 0, .int .i64 0] 3 (0, 0))).alloc (.cells #[.int .i64 0, .int .i64 1, .int .i64 2, .int .i64 4] 3 (0, 0))).alloc (.cells #[.int .i64 0, .int .i64 1, .int .i64 1, .slice (some ⟨w2.heap.size + 1, 0, none⟩) 2 2, .int .i64 2, .string ⟨#[84]⟩, .string ⟨#[105]⟩, .string ⟨#[102]⟩, .string v, .int .i64 0, .int .i64 0, .int .i64 0, .int .i64 0, .slice none 0 0] 35 (0, 0))) := ((((Frm.refl No w2).al _).al _).al _).al _
  have ZX : ((((w2.alloc (.cells #[.int .i64 2, .bool false, .int .i64 0, .int .i64 0, .string ⟨#[]⟩, .int .i64 0, .int .i64 0, .slice a1 0 a1n, .slice a2 0 a2n, .slice a3 2 a3n] 30 (0, 0))).alloc (.cells #[.int .i64 0, .int .i64 0] 3 (0, 0))).alloc (.cells #[.int .i64 0, .int .i64 1, .int .i64 2, .int .i64 4] 3 (0, 0))).alloc (.cells #[.int .i64 0, .int .i64 1, .int .i64 1, .slice (some ⟨w2.heap.size + 1, 0, none⟩) 2 2, .int .i64 2, .string ⟨#[84]⟩, .string ⟨#[105]⟩, .string ⟨#[102]⟩, .string v, .int .i64 0, .int .i64 0, .int .i64 0, .int .i64 0, .slice none 0 0] 35 (0, 0))).heap[w2.heap.size + 1 + 1 + 1]? = some (.cells #[.int .i64 0, .int .i64 1, .int .i64 1, .slice (some ⟨w2.heap.size + 1, 0, none⟩) 2 2, .int .i64 2, .string ⟨#[84]⟩, .string ⟨#[105]⟩, .string ⟨#[102]⟩, .string v, .int .i64 0, .int .i64 0, .int .i64 0, .int .i64 0, .slice none 0 0] 35 (0, 0)) := al_at (by simp)
  have LX : ((((w2.alloc (.cells #[.int .i64 2, .bool false, .int .i64 0, .int .i64 0, .string ⟨#[]⟩, .int .i64 0, .int .i64 0, .slice a1 0 a1n, .slice a2 0 a2n, .slice a3 2 a3n] 30 (0, 0))).alloc (.cells #[.int .i64 0, .int .i64 0] 3 (0, 0))).alloc (.cells #[.int .i64 0, .int .i64 1, .int .i64 2, .int .i64 4] 3 (0, 0))).alloc (.cells #[.int .i64 0, .int .i64 1, .int .i64 1, .slice (some ⟨w2.heap.size + 1, 0, none⟩) 2 2, .int .i64 2, .string ⟨#[84]⟩, .string ⟨#[105]⟩, .string ⟨#[102]⟩, .string v, .int .i64 0, .int .i64 0, .int .i64 0, .int .i64 0, .slice none 0 0] 35 (0, 0))).heap[w2.heap.size + 1]? = some (.cells #[.int .i64 0, .int .i64 0] 3 (0, 0)) := al_old (al_old (al_at (by simp)))
  have zX : ((((w2.alloc (.cells #[.int .i64 2, .bool false, .int .i64 0, .int .i64 0, .string ⟨#[]⟩, .int .i64 0, .int .i64 0, .slice a1 0 a1n, .slice a2 0 a2n, .slice a3 2 a3n] 30 (0, 0))).alloc (.cells #[.int .i64 0, .int .i64 0] 3 (0, 0))).alloc (.cells #[.int .i64 0, .int .i64 1, .int .i64 2, .int .i64 4] 3 (0, 0))).alloc (.cells #[.int .i64 0, .int .i64 1, .int .i64 1, .slice (some ⟨w2.heap.size + 1, 0, none⟩) 2 2, .int .i64 2, .string ⟨#[84]⟩, .string ⟨#[105]⟩, .string ⟨#[102]⟩, .string v, .int .i64 0, .int .i64 0, .int .i64 0, .int .i64 0, .slice none 0 0] 35 (0, 0))).heap.size = w2.heap.size + 1 + 1 + 1 + 1 := by simp
  have R2 := r2.no FX
  have FX := F2.trans FX
  clear r2 F2
  revert FX ZX LX zX R2
  generalize ((((w2.alloc (.cells #[.int .i64 2, .bool false, .int .i64 0, .int .i64 0, .string ⟨#[]⟩, .int .i64 0, .int .i64 0, .slice a1 0 a1n, .slice a2 0 a2n, .slice a3 2 a3n] 30 (0, 0))).alloc (.cells #[.int .i64 0, .int .i64 0] 3 (0, 0))).alloc (.cells #[.int .i64 0, .int .i64 1, .int .i64 2, .int .i64 4] 3 (0, 0))).alloc (.cells #[.int .i64 0, .int .i64 1, .int .i64 1, .slice (some ⟨w2.heap.size + 1, 0, none⟩) 2 2, .int .i64 2, .string ⟨#[84]⟩, .string ⟨#[105]⟩, .string ⟨#[102]⟩, .string v, .int .i64 0, .int .i64 0, .int .i64 0, .int .i64 0, .slice none 0 0] 35 (0, 0))) = X
  intro ZX LX zX R2 FX
  have DX : Ow X (fun k => k = w2.heap.size + 1) 3 eInt (.slice (some ⟨w2.heap.size + 1, 0, none⟩) 2 2) [0, 0] := Ow.row (l := [0, 0]) (c := 2) LX rfl (by decide) (by decide) rfl rfl
  refine (apply_gen T1.out (F := (fun x1 x2 x3 => .agg #[.int .i64 2, .bool false, .int .i64 0, .int .i64 0, .string ⟨#[]⟩, .int .i64 0, .int .i64 0, x1, x2, x3])) (fun _ _ _ => rfl) (e := 1) (l := 0) (s := 2) rfl rfl rfl R2 ⟨(by show 0 * 32 ≤ _; unfold reachBytes; omega), (by show 0 * 48 ≤ _; unfold reachBytes; omega), (by show 2 * 8 ≤ _; unfold reachBytes; omega)⟩ ⟨(by show 0 ≤ _; omega), (fun x hx => by cases hx), (fun x hx => by cases hx)⟩ ⟨DX.rd, RdS.nil _ _⟩ (opB_of (by show 1 ≤ 256; omega) (by show 1 ≤ 256; omega) (by show 1 ≤ 256; omega) HV.out)).mono ?_
  rintro e w3 ⟨d1, d1n, d2, d2n, d3, d3n, rfl, o3, f3⟩
  have F3 := FX.trans f3
  have Z3 := f3.obj ZX id
  have RD := o3.rd
  clear T1 FX ZX LX zX R2 DX o3 f3
  have n3 := lt_of_block Z3
  have n3a : w2.heap.size + 1 + 1 + 1 < w3.heap.size + 1 := by omega
  have n3b : w2.heap.size + 1 + 1 + 1 < w3.heap.size + 1 + 1 := by omega
  have n3c : w2.heap.size + 1 + 1 + 1 < w3.heap.size + 1 + 1 + 1 := by omega
  have n3d : w2.heap.size + 1 + 1 + 1 < w3.heap.size + 1 + 1 + 1 + 1 := by omega
  obtain ⟨t0, t1, t2, t3, t4, t5, t6, t7, t8, t9, t10, t11, t12, t13⟩ := obj14 Z3
  go_wp2_with (fail)

  have FY0 : Frm No w3 ((((((w3.alloc (.cells #[.int .i64 2, .bool false, .int .i64 0, .int .i64 0, .string ⟨#[]⟩, .int .i64 0, .int .i64 0, .slice d1 1 d1n, .slice d2 0 d2n, .slice d3 2 d3n] 30 (0, 0))).alloc (.cells #[.int .i64 1, .int .i64 0] 3 (0, 0))).alloc (.cells #[.int .i64 0, .int .i64 2, .int .i64 2, .slice (some ⟨w3.heap.size + 1, 0, none⟩) 2 2, .int .i64 2, .string ⟨#[84]⟩, .string ⟨#[105]⟩, .string ⟨#[102]⟩, .string w, .int .i64 0, .int .i64 0, .int .i64 0, .int .i64 0, .slice none 0 0] 35 (0, 0))).alloc (.cells #[.int .i64 1, .int .i64 0] 3 (0, 0))).alloc (.cells #[.int .i64 1, .int .i64 1, .int .i64 2, .slice (some ⟨w3.heap.size + 1 + 1 + 1, 0, none⟩) 2 2, .int .i64 3, .string ⟨#[84]⟩, .string ⟨#[105]⟩, .string ⟨#[102]⟩, .string ⟨#[]⟩, .int .i64 0, .int .i64 0, .int .i64 0, .int .i64 0, .slice (some ⟨w3.heap.size + 1 + 1 + 1 + 1 + 1, 0, none⟩) 1 1] 35 (0, 0))).alloc (.cells #[.int .i64 0, .int .i64 1] 32 (0, 0))) := ((((((Frm.refl No w3).al _).al _).al _).al _).al _).al _
  have hD : ((((((w3.alloc (.cells #[.int .i64 2, .bool false, .int .i64 0, .int .i64 0, .string ⟨#[]⟩, .int .i64 0, .int .i64 0, .slice d1 1 d1n, .slice d2 0 d2n, .slice d3 2 d3n] 30 (0, 0))).alloc (.cells #[.int .i64 1, .int .i64 0] 3 (0, 0))).alloc (.cells #[.int .i64 0, .int .i64 2, .int .i64 2, .slice (some ⟨w3.heap.size + 1, 0, none⟩) 2 2, .int .i64 2, .string ⟨#[84]⟩, .string ⟨#[105]⟩, .string ⟨#[102]⟩, .string w, .int .i64 0, .int .i64 0, .int .i64 0, .int .i64 0, .slice none 0 0] 35 (0, 0))).alloc (.cells #[.int .i64 1, .int .i64 0] 3 (0, 0))).alloc (.cells #[.int .i64 1, .int .i64 1, .int .i64 2, .slice (some ⟨w3.heap.size + 1 + 1 + 1, 0, none⟩) 2 2, .int .i64 3, .string ⟨#[84]⟩, .string ⟨#[105]⟩, .string ⟨#[102]⟩, .string ⟨#[]⟩, .int .i64 0, .int .i64 0, .int .i64 0, .int .i64 0, .slice (some ⟨w3.heap.size + 1 + 1 + 1 + 1 + 1, 0, none⟩) 1 1] 35 (0, 0))).alloc (.cells #[.int .i64 0, .int .i64 1] 32 (0, 0))).heap[w3.heap.size]? = some (.cells #[.int .i64 2, .bool false, .int .i64 0, .int .i64 0, .string ⟨#[]⟩, .int .i64 0, .int .i64 0, .slice d1 1 d1n, .slice d2 0 d2n, .slice d3 2 d3n] 30 (0, 0)) := al_old (al_old (al_old (al_old (al_old (heap_alloc_new w3 _)))))
  have hL : ((((((w3.alloc (.cells #[.int .i64 2, .bool false, .int .i64 0, .int .i64 0, .string ⟨#[]⟩, .int .i64 0, .int .i64 0, .slice d1 1 d1n, .slice d2 0 d2n, .slice d3 2 d3n] 30 (0, 0))).alloc (.cells #[.int .i64 1, .int .i64 0] 3 (0, 0))).alloc (.cells #[.int .i64 0, .int .i64 2, .int .i64 2, .slice (some ⟨w3.heap.size + 1, 0, none⟩) 2 2, .int .i64 2, .string ⟨#[84]⟩, .string ⟨#[105]⟩, .string ⟨#[102]⟩, .string w, .int .i64 0, .int .i64 0, .int .i64 0, .int .i64 0, .slice none 0 0] 35 (0, 0))).alloc (.cells #[.int .i64 1, .int .i64 0] 3 (0, 0))).alloc (.cells #[.int .i64 1, .int .i64 1, .int .i64 2, .slice (some ⟨w3.heap.size + 1 + 1 + 1, 0, none⟩) 2 2, .int .i64 3, .string ⟨#[84]⟩, .string ⟨#[105]⟩, .string ⟨#[102]⟩, .string ⟨#[]⟩, .int .i64 0, .int .i64 0, .int .i64 0, .int .i64 0, .slice (some ⟨w3.heap.size + 1 + 1 + 1 + 1 + 1, 0, none⟩) 1 1] 35 (0, 0))).alloc (.cells #[.int .i64 0, .int .i64 1] 32 (0, 0))).heap[w3.heap.size + 1]? = some (.cells #[.int .i64 1, .int .i64 0] 3 (0, 0)) := al_old (al_old (al_old (al_old (al_at (by simp)))))
  have hA : ((((((w3.alloc (.cells #[.int .i64 2, .bool false, .int .i64 0, .int .i64 0, .string ⟨#[]⟩, .int .i64 0, .int .i64 0, .slice d1 1 d1n, .slice d2 0 d2n, .slice d3 2 d3n] 30 (0, 0))).alloc (.cells #[.int .i64 1, .int .i64 0] 3 (0, 0))).alloc (.cells #[.int .i64 0, .int .i64 2, .int .i64 2, .slice (some ⟨w3.heap.size + 1, 0, none⟩) 2 2, .int .i64 2, .string ⟨#[84]⟩, .string ⟨#[105]⟩, .string ⟨#[102]⟩, .string w, .int .i64 0, .int .i64 0, .int .i64 0, .int .i64 0, .slice none 0 0] 35 (0, 0))).alloc (.cells #[.int .i64 1, .int .i64 0] 3 (0, 0))).alloc (.cells #[.int .i64 1, .int .i64 1, .int .i64 2, .slice (some ⟨w3.heap.size + 1 + 1 + 1, 0, none⟩) 2 2, .int .i64 3, .string ⟨#[84]⟩, .string ⟨#[105]⟩, .string ⟨#[102]⟩, .string ⟨#[]⟩, .int .i64 0, .int .i64 0, .int .i64 0, .int .i64 0, .slice (some ⟨w3.heap.size + 1 + 1 + 1 + 1 + 1, 0, none⟩) 1 1] 35 (0, 0))).alloc (.cells #[.int .i64 0, .int .i64 1] 32 (0, 0))).heap[w3.heap.size + 1 + 1]? = some (.cells #[.int .i64 0, .int .i64 2, .int .i64 2, .slice (some ⟨w3.heap.size + 1, 0, none⟩) 2 2, .int .i64 2, .string ⟨#[84]⟩, .string ⟨#[105]⟩, .string ⟨#[102]⟩, .string w, .int .i64 0, .int .i64 0, .int .i64 0, .int .i64 0, .slice none 0 0] 35 (0, 0)) := al_old (al_old (al_old (al_at (by simp))))
  have hM : ((((((w3.alloc (.cells #[.int .i64 2, .bool false, .int .i64 0, .int .i64 0, .string ⟨#[]⟩, .int .i64 0, .int .i64 0, .slice d1 1 d1n, .slice d2 0 d2n, .slice d3 2 d3n] 30 (0, 0))).alloc (.cells #[.int .i64 1, .int .i64 0] 3 (0, 0))).alloc (.cells #[.int .i64 0, .int .i64 2, .int .i64 2, .slice (some ⟨w3.heap.size + 1, 0, none⟩) 2 2, .int .i64 2, .string ⟨#[84]⟩, .string ⟨#[105]⟩, .string ⟨#[102]⟩, .string w, .int .i64 0, .int .i64 0, .int .i64 0, .int .i64 0, .slice none 0 0] 35 (0, 0))).alloc (.cells #[.int .i64 1, .int .i64 0] 3 (0, 0))).alloc (.cells #[.int .i64 1, .int .i64 1, .int .i64 2, .slice (some ⟨w3.heap.size + 1 + 1 + 1, 0, none⟩) 2 2, .int .i64 3, .string ⟨#[84]⟩, .string ⟨#[105]⟩, .string ⟨#[102]⟩, .string ⟨#[]⟩, .int .i64 0, .int .i64 0, .int .i64 0, .int .i64 0, .slice (some ⟨w3.heap.size + 1 + 1 + 1 + 1 + 1, 0, none⟩) 1 1] 35 (0, 0))).alloc (.cells #[.int .i64 0, .int .i64 1] 32 (0, 0))).heap[w3.heap.size + 1 + 1 + 1]? = some (.cells #[.int .i64 1, .int .i64 0] 3 (0, 0)) := al_old (al_old (al_at (by simp)))
  have hB : ((((((w3.alloc (.cells #[.int .i64 2, .bool false, .int .i64 0, .int .i64 0, .string ⟨#[]⟩, .int .i64 0, .int .i64 0, .slice d1 1 d1n, .slice d2 0 d2n, .slice d3 2 d3n] 30 (0, 0))).alloc (.cells #[.int .i64 1, .int .i64 0] 3 (0, 0))).alloc (.cells #[.int .i64 0, .int .i64 2, .int .i64 2, .slice (some ⟨w3.heap.size + 1, 0, none⟩) 2 2, .int .i64 2, .string ⟨#[84]⟩, .string ⟨#[105]⟩, .string ⟨#[102]⟩, .string w, .int .i64 0, .int .i64 0, .int .i64 0, .int .i64 0, .slice none 0 0] 35 (0, 0))).alloc (.cells #[.int .i64 1, .int .i64 0] 3 (0, 0))).alloc (.cells #[.int .i64 1, .int .i64 1, .int .i64 2, .slice (some ⟨w3.heap.size + 1 + 1 + 1, 0, none⟩) 2 2, .int .i64 3, .string ⟨#[84]⟩, .string ⟨#[105]⟩, .string ⟨#[102]⟩, .string ⟨#[]⟩, .int .i64 0, .int .i64 0, .int .i64 0, .int .i64 0, .slice (some ⟨w3.heap.size + 1 + 1 + 1 + 1 + 1, 0, none⟩) 1 1] 35 (0, 0))).alloc (.cells #[.int .i64 0, .int .i64 1] 32 (0, 0))).heap[w3.heap.size + 1 + 1 + 1 + 1]? = some (.cells #[.int .i64 1, .int .i64 1, .int .i64 2, .slice (some ⟨w3.heap.size + 1 + 1 + 1, 0, none⟩) 2 2, .int .i64 3, .string ⟨#[84]⟩, .string ⟨#[105]⟩, .string ⟨#[102]⟩, .string ⟨#[]⟩, .int .i64 0, .int .i64 0, .int .i64 0, .int .i64 0, .slice (some ⟨w3.heap.size + 1 + 1 + 1 + 1 + 1, 0, none⟩) 1 1] 35 (0, 0)) := al_old (al_at (by simp))
  have hT : ((((((w3.alloc (.cells #[.int .i64 2, .bool false, .int .i64 0, .int .i64 0, .string ⟨#[]⟩, .int .i64 0, .int .i64 0, .slice d1 1 d1n, .slice d2 0 d2n, .slice d3 2 d3n] 30 (0, 0))).alloc (.cells #[.int .i64 1, .int .i64 0] 3 (0, 0))).alloc (.cells #[.int .i64 0, .int .i64 2, .int .i64 2, .slice (some ⟨w3.heap.size + 1, 0, none⟩) 2 2, .int .i64 2, .string ⟨#[84]⟩, .string ⟨#[105]⟩, .string ⟨#[102]⟩, .string w, .int .i64 0, .int .i64 0, .int .i64 0, .int .i64 0, .slice none 0 0] 35 (0, 0))).alloc (.cells #[.int .i64 1, .int .i64 0] 3 (0, 0))).alloc (.cells #[.int .i64 1, .int .i64 1, .int .i64 2, .slice (some ⟨w3.heap.size + 1 + 1 + 1, 0, none⟩) 2 2, .int .i64 3, .string ⟨#[84]⟩, .string ⟨#[105]⟩, .string ⟨#[102]⟩, .string ⟨#[]⟩, .int .i64 0, .int .i64 0, .int .i64 0, .int .i64 0, .slice (some ⟨w3.heap.size + 1 + 1 + 1 + 1 + 1, 0, none⟩) 1 1] 35 (0, 0))).alloc (.cells #[.int .i64 0, .int .i64 1] 32 (0, 0))).heap[w3.heap.size + 1 + 1 + 1 + 1 + 1]? = some (.cells #[.int .i64 0, .int .i64 1] 32 (0, 0)) := al_at (by simp)
  have RD0 := RD.no FY0
  have FY := F3.trans FY0
  clear F3 RD FY0 Z3 n3 n3a n3b n3c n3d t0 t1 t2 t3 t4 t5 t6 t7 t8 t9 t10 t11 t12 t13
  revert hD hL hA hM hB hT RD0 FY
  generalize ((((((w3.alloc (.cells #[.int .i64 2, .bool false, .int .i64 0, .int .i64 0, .string ⟨#[]⟩, .int .i64 0, .int .i64 0, .slice d1 1 d1n, .slice d2 0 d2n, .slice d3 2 d3n] 30 (0, 0))).alloc (.cells #[.int .i64 1, .int .i64 0] 3 (0, 0))).alloc (.cells #[.int .i64 0, .int .i64 2, .int .i64 2, .slice (some ⟨w3.heap.size + 1, 0, none⟩) 2 2, .int .i64 2, .string ⟨#[84]⟩, .string ⟨#[105]⟩, .string ⟨#[102]⟩, .string w, .int .i64 0, .int .i64 0, .int .i64 0, .int .i64 0, .slice none 0 0] 35 (0, 0))).alloc (.cells #[.int .i64 1, .int .i64 0] 3 (0, 0))).alloc (.cells #[.int .i64 1, .int .i64 1, .int .i64 2, .slice (some ⟨w3.heap.size + 1 + 1 + 1, 0, none⟩) 2 2, .int .i64 3, .string ⟨#[84]⟩, .string ⟨#[105]⟩, .string ⟨#[102]⟩, .string ⟨#[]⟩, .int .i64 0, .int .i64 0, .int .i64 0, .int .i64 0, .slice (some ⟨w3.heap.size + 1 + 1 + 1 + 1 + 1, 0, none⟩) 1 1] 35 (0, 0))).alloc (.cells #[.int .i64 0, .int .i64 1] 32 (0, 0))) = Y
  intro hD hL hA hM hB hT RD0 FY
  have hLA : Ow Y (fun k => k = w3.heap.size + 1) 3 eInt (.slice (some ⟨w3.heap.size + 1, 0, none⟩) 2 2) [1, 0] := Ow.row (l := [1, 0]) (c := 2) hL rfl (by decide) (by decide) rfl rfl
  have hLB : Ow Y (fun k => k = w3.heap.size + 1 + 1 + 1) 3 eInt (.slice (some ⟨w3.heap.size + 1 + 1 + 1, 0, none⟩) 2 2) [1, 0] := Ow.row (l := [1, 0]) (c := 2) hM rfl (by decide) (by decide) rfl rfl
  have hDD : Ow Y (fun k => k = w3.heap.size + 1 + 1 + 1 + 1 + 1) 32 eDt (.slice (some ⟨w3.heap.size + 1 + 1 + 1 + 1 + 1, 0, none⟩) 1 1) [(0, 1)] := Ow.row (l := [(0, 1)]) (c := 1) hT rfl (by decide) (by decide) rfl rfl
  have OA : OpR Y (opP 2 w (0, 0) (0, 0)) (.slice (some ⟨w3.heap.size + 1, 0, none⟩) 2 2) (.slice none 0 0) := ⟨hLA.rd, RdS.nil _ _⟩
  have OB : OpR Y (opQ 3 ⟨#[]⟩ (0, 0) (0, 0) [(0, 1)]) (.slice (some ⟨w3.heap.size + 1 + 1 + 1, 0, none⟩) 2 2) (.slice (some ⟨w3.heap.size + 1 + 1 + 1 + 1 + 1, 0, none⟩) 1 1) := ⟨hLB.rd, hDD.rd⟩
  clear hL hM hLA hLB hT hDD
  refine (apply_gen T2.out (F := (fun x1 x2 x3 => .agg #[.int .i64 2, .bool false, .int .i64 0, .int .i64 0, .string ⟨#[]⟩, .int .i64 0, .int .i64 0, x1, x2, x3])) (fun _ _ _ => rfl) (e := 2) (l := 0) (s := 2) rfl rfl rfl RD0 ⟨(by show 1 * 32 ≤ _; unfold reachBytes; omega), (by show 0 * 48 ≤ _; unfold reachBytes; omega), (by show 2 * 8 ≤ _; unfold reachBytes; omega)⟩ ⟨(by show 0 ≤ _; omega), (fun x hx => by have h1 := HV.out; have h2 := HW.out; simp only [c2, List.mem_cons, List.not_mem_nil, or_false] at hx; (try rcases hx with rfl | rfl | rfl) <;> (try rcases hx with rfl | rfl) <;> (try subst hx) <;> first | exact small_of HV.out | exact small_of HW.out | exact small_of (show (0 : Nat) ≤ 256 by omega) | exact hx.elim), (fun x hx => by cases hx)⟩ OA (opB_of (by show 1 ≤ 256; omega) (by show 1 ≤ 256; omega) (by show 1 ≤ 256; omega) HW.out)).mono ?_
  rintro e w4 ⟨p1, p1n, p2, p2n, p3, p3n, rfl, ow4, fw4⟩
  have F4 := FY.trans fw4
  have D4 := fw4.obj hD id
  have A4 := fw4.obj hA id
  have B4 := fw4.obj hB id
  have OA4 := OA.no fw4
  have OB4 := OB.no fw4
  have RD4 := RD0.no fw4
  have RP := ow4.rd
  clear FY hD hA hB OA OB RD0 ow4 fw4 T2
  have nA := lt_of_block A4
  have nB := lt_of_block B4
  have nD := lt_of_block D4
  obtain ⟨t0, t1, t2, t3, t4, t5, t6, t7, t8, t9, t10, t11, t12, t13⟩ := obj14 B4
  go_wp2_with (fail)
  clear t0 t1 t2 t3 t4 t5 t6 t7 t8 t9 t10 t11 t12 t13
  have G4 := (Frm.refl No w4).al (.cells #[.int .i64 2, .bool false, .int .i64 0, .int .i64 0, .string ⟨#[]⟩, .int .i64 0, .int .i64 0, .slice p1 2 p1n, .slice p2 0 p2n, .slice p3 2 p3n] 30 (0, 0))
  refine (apply_gen T3.out (F := (fun x1 x2 x3 => .agg #[.int .i64 2, .bool false, .int .i64 0, .int .i64 0, .string ⟨#[]⟩, .int .i64 0, .int .i64 0, x1, x2, x3])) (fun _ _ _ => rfl) (e := 1) (l := 0) (s := 2) rfl rfl rfl (RP.no G4) ⟨(by show 2 * 32 ≤ _; unfold reachBytes; omega), (by show 0 * 48 ≤ _; unfold reachBytes; omega), (by show 2 * 8 ≤ _; unfold reachBytes; omega)⟩ ⟨(by show 0 ≤ _; omega), (fun x hx => by have h1 := HV.out; have h2 := HW.out; simp only [c2, List.mem_cons, List.not_mem_nil, or_false] at hx; (try rcases hx with rfl | rfl | rfl) <;> (try rcases hx with rfl | rfl) <;> (try subst hx) <;> first | exact small_of HV.out | exact small_of HW.out | exact small_of (show (0 : Nat) ≤ 256 by omega) | exact hx.elim), (fun x hx => by cases hx)⟩ (OB4.no G4) (opB_of (by show 1 ≤ 256; omega) (by show 1 ≤ 256; omega) (by show 1 ≤ 256; omega) (by show 0 ≤ 256; omega))).mono ?_
  rintro e w5 ⟨q1, q1n, q2, q2n, q3, q3n, rfl, ow5, fw5⟩
  have G4 := G4.trans fw5
  have F5 := F4.trans G4
  have D5 := G4.obj D4 id
  have A5 := G4.obj A4 id
  have B5 := G4.obj B4 id
  have OA5 := OA4.no G4
  have OB5 := OB4.no G4
  have RD5 := RD4.no G4
  have RQ := ow5.rd
  clear F4 D4 A4 B4 OA4 OB4 RD4 ow5 fw5 G4 T3 nA nB nD RP
  have nA := lt_of_block A5
  have nB := lt_of_block B5
  have nD := lt_of_block D5
  obtain ⟨q0, q1, q2, q3, q4, q5, q6, q7, q8, q9⟩ := obj10 D5
  obtain ⟨t0, t1, t2, t3, t4, t5, t6, t7, t8, t9, t10, t11, t12, t13⟩ := obj14 B5
  go_wp2_with (fail)
  clear q0 q1 q2 q3 q4 q5 q6 q7 q8 q9 t0 t1 t2 t3 t4 t5 t6 t7 t8 t9 t10 t11 t12 t13
  have G5 := (Frm.refl No w5).al (.cells #[.int .i64 2, .bool false, .int .i64 0, .int .i64 0, .string ⟨#[]⟩, .int .i64 0, .int .i64 0, .slice q1 1 q1n, .slice q2 0 q2n, .slice q3 2 q3n] 30 (0, 0))
  refine (apply_gen T4.out (F := (fun x1 x2 x3 => .agg #[.int .i64 2, .bool false, .int .i64 0, .int .i64 0, .string ⟨#[]⟩, .int .i64 0, .int .i64 0, x1, x2, x3])) (fun _ _ _ => rfl) (e := 0) (l := 0) (s := 2) rfl rfl rfl (RD5.no G5) ⟨(by show 1 * 32 ≤ _; unfold reachBytes; omega), (by show 0 * 48 ≤ _; unfold reachBytes; omega), (by show 2 * 8 ≤ _; unfold reachBytes; omega)⟩ ⟨(by show 0 ≤ _; omega), (fun x hx => by have h1 := HV.out; have h2 := HW.out; simp only [c2, List.mem_cons, List.not_mem_nil, or_false] at hx; (try rcases hx with rfl | rfl | rfl) <;> (try rcases hx with rfl | rfl) <;> (try subst hx) <;> first | exact small_of HV.out | exact small_of HW.out | exact small_of (show (0 : Nat) ≤ 256 by omega) | exact hx.elim), (fun x hx => by cases hx)⟩ (OB5.no G5) (opB_of (by show 1 ≤ 256; omega) (by show 1 ≤ 256; omega) (by show 1 ≤ 256; omega) (by show 0 ≤ 256; omega))).mono ?_
  rintro e w6 ⟨r1, r1n, r2, r2n, r3, r3n, rfl, ow6, fw6⟩
  have Q5 := heap_alloc_new w5 (.cells #[.int .i64 2, .bool false, .int .i64 0, .int .i64 0, .string ⟨#[]⟩, .int .i64 0, .int .i64 0, .slice q1 1 q1n, .slice q2 0 q2n, .slice q3 2 q3n] 30 (0, 0))
  have Q6 := fw6.obj Q5 id
  have G5 := G5.trans fw6
  have F6 := F5.trans G5
  have A6 := G5.obj A5 id
  have OA6 := OA5.no G5
  have RQ6 := RQ.no G5
  have RR := ow6.rd
  clear F5 D5 A5 B5 OA5 OB5 RD5 ow6 fw6 G5 T4 nA nB nD RQ Q5
  have nA := lt_of_block A6
  have nQ := lt_of_block Q6
  obtain ⟨t0, t1, t2, t3, t4, t5, t6, t7, t8, t9, t10, t11, t12, t13⟩ := obj14 A6
  go_wp2_with (fail)
  clear t0 t1 t2 t3 t4 t5 t6 t7 t8 t9 t10 t11 t12 t13
  have G6 := (Frm.refl No w6).al (.cells #[.int .i64 2, .bool false, .int .i64 0, .int .i64 0, .string ⟨#[]⟩, .int .i64 0, .int .i64 0, .slice r1 0 r1n, .slice r2 0 r2n, .slice r3 2 r3n] 30 (0, 0))
  refine (apply_gen T5.out (F := (fun x1 x2 x3 => .agg #[.int .i64 2, .bool false, .int .i64 0, .int .i64 0, .string ⟨#[]⟩, .int .i64 0, .int .i64 0, x1, x2, x3])) (fun _ _ _ => rfl) (e := 1) (l := 0) (s := 2) rfl rfl rfl (RR.no G6) ⟨(by show 0 * 32 ≤ _; unfold reachBytes; omega), (by show 0 * 48 ≤ _; unfold reachBytes; omega), (by show 2 * 8 ≤ _; unfold reachBytes; omega)⟩ ⟨(by show 0 ≤ _; omega), (fun x hx => by cases hx), (fun x hx => by cases hx)⟩ (OA6.no G6) (opB_of (by show 1 ≤ 256; omega) (by show 1 ≤ 256; omega) (by show 1 ≤ 256; omega) HW.out)).mono ?_
  rintro e w7 ⟨s1, s1n, s2, s2n, s3, s3n, rfl, ow7, fw7⟩
  have Q7 := (G6.trans fw7).obj Q6 id
  have G6 := G6.trans fw7
  have F7 := F6.trans G6
  have RQ7 := RQ6.no G6
  have RS := ow7.rd
  clear F6 A6 OA6 ow7 fw7 G6 T5 nA nQ RQ6 RR Q6
  have nQ := lt_of_block Q7
  obtain ⟨q0, q1, q2, q3, q4, q5, q6, q7, q8, q9⟩ := obj10 Q7
  go_wp2_with (go_at_call 18; refine (num_ok _ _).mono ?_; rintro e w' ⟨rfl, rfl⟩)
  have G7 := (Frm.refl No w7).al (.cells #[.int .i64 2, .bool false, .int .i64 0, .int .i64 0, .string ⟨#[]⟩, .int .i64 0, .int .i64 0, .slice s1 1 s1n, .slice s2 0 s2n, .slice s3 2 s3n] 30 (0, 0))
  refine (sameCell_ok (RQ7.no G7) (RS.no G7)).mono ?_
  rintro e w8 ⟨rfl, f8⟩
  have G7 := G7.trans f8
  have F8 := F7.trans G7
  have RQ8 := RQ7.no G7
  have Q8 := G7.obj Q7 id
  clear F7 RQ7 RS Q7 f8 G7 nQ
  clear q0 q1 q2 q3 q4 q5 q6 q7 q8 q9
  have nQ := lt_of_block Q8
  obtain ⟨q0, q1, q2, q3, q4, q5, q6, q7, q8, q9⟩ := obj10 Q8
  go_wp2_with (fail)
  have L8 : RdS (w8.alloc (.cells #[.int .i64 2, .int .i64 1] 3 (0, 0))) eInt (.slice (some ⟨w8.heap.size, 0, none⟩) 2 2) [2, 1] := RdS_lits w8 eInt [2, 1] 3 (g := w8.heap.size) (n := 2) rfl rfl (by decide)
  refine (sameInts_ok (RQ8.s.no ((Frm.refl No w8).al _)) L8).mono ?_
  rintro e w9 ⟨rfl, k, hw9⟩
  have G8 : Frm No w8 w9 := by rw [hw9]; exact ((Frm.refl No w8).al _).dr k
  clear hw9
  rw [show decide ((c2 [(0, 2, w)] [2, 1]).seen = [2, 1]) = true from rfl]
  go_wp2_with (fail)
  go_ret
  exact ⟨rfl, F8.trans G8⟩
end Go.Proofs.YtofikfkgiblblaaGreatDoor

/- tattlelaw12.CellTwo, one of its six ways. -/
namespace Go.Proofs.YtofikfkgiblblaaGreatDoor
set_option linter.unusedVariables false
set_option linter.unusedSimpArgs false
open Go.RowKit Go.Lib Go.Tt Go.Shelf
set_option maxHeartbeats 8000000 in
set_option maxRecDepth 100000 in
theorem ltwo3 {w0 : World} (tab : Tab w0) (kind x : Int) (hk : (IntKind.u64.wrap kind).tmod 4 = 3) {v w : ByteArray} (hv : v.size ≤ 256) (hw : w.size ≤ 256) (hx : bits .and .i64 x 1 = 0) :
    Calls Tryz.prog 8 #[.int .i64 kind, .string v, .string w, .int .i64 x] w0 fun e w' => e = .returned (.bool true) ∧ Frm No w0 w' := by
  obtain ⟨T1, T2, T3, T4, T5, T6⟩ := two3 hv hw
  replace T1 := Lib.hid T1
  replace T2 := Lib.hid T2
  replace T3 := Lib.hid T3
  replace T4 := Lib.hid T4
  replace T5 := Lib.hid T5
  clear T6
  have HV := Lib.hid hv
  have HW := Lib.hid hw
  have g1 : ¬ (256 < (v.size : Int)) := by omega
  have g2 : ¬ (256 < (w.size : Int)) := by omega
  have HA := Lib.hid (awake_ok tab)
  clear hv hw tab
  go_enter Tryz.func8, Tryz.ntmps8
  go_wp2_with (fail)
  refine HA.out.mono ?_
  rintro e w1 ⟨rfl, F1⟩
  clear HA
  go_wp2_with (fail)
  refine (new_gen (F := (fun x1 x2 x3 => .agg #[.int .i64 3, .bool false, .int .i64 0, .int .i64 0, .string ⟨#[]⟩, .int .i64 0, .int .i64 0, x1, x2, x3])) (show newF 3 2 = (newC 3 2, 0) from rfl) (fun _ _ _ => rfl) (e := 0) (l := 0) (s := 2) rfl rfl rfl w1).mono ?_
  rintro e w2 ⟨a1, a1n, a2, a2n, a3, a3n, rfl, r2, f2⟩
  have F2 := F1.trans f2
  clear F1 f2
  go_wp2_with (fail)
  have FX : Frm No w2 ((((w2.alloc (.cells #[.int .i64 3, .bool false, .int .i64 0, .int .i64 0, .string ⟨#[]⟩, .int .i64 0, .int .i64 0, .slice a1 0 a1n, .slice a2 0 a2n, .slice a3 2 a3n] 30 (0, 0))).alloc (.cells #[.int .i64 0, .int .i64 0] 3 (0, 0))).alloc (.cells #[.int .i64 0, .int .i64 1, .int .i64 2, .int .i64 4] 3 (0, 0))).alloc (.cells #[.int .i64 0, .int .i64 1, .int .i64 1, .slice (some ⟨w2.heap.size + 1, 0, none⟩) 2 2, .int .i64 4, .string ⟨#[84]⟩, .string ⟨#[105]⟩, .string ⟨#[102]⟩, .string v, .int .i64 0, .int .i64 0, .int .i64 0, .int .i64 0, .slice none 0 0] 35 (0, 0))) := ((((Frm.refl No w2).al _).al _).al _).al _
  have ZX : ((((w2.alloc (.cells #[.int .i64 3, .bool false, .int .i64 0, .int .i64 0, .string ⟨#[]⟩, .int .i64 0, .int .i64 0, .slice a1 0 a1n, .slice a2 0 a2n, .slice a3 2 a3n] 30 (0, 0))).alloc (.cells #[.int .i64 0, .int .i64 0] 3 (0, 0))).alloc (.cells #[.int .i64 0, .int .i64 1, .int .i64 2, .int .i64 4] 3 (0, 0))).alloc (.cells #[.int .i64 0, .int .i64 1, .int .i64 1, .slice (some ⟨w2.heap.size + 1, 0, none⟩) 2 2, .int .i64 4, .string ⟨#[84]⟩, .string ⟨#[105]⟩, .string ⟨#[102]⟩, .string v, .int .i64 0, .int .i64 0, .int .i64 0, .int .i64 0, .slice none 0 0] 35 (0, 0))).heap[w2.heap.size + 1 + 1 + 1]? = some (.cells #[.int .i64 0, .int .i64 1, .int .i64 1, .slice (some ⟨w2.heap.size + 1, 0, none⟩) 2 2, .int .i64 4, .string ⟨#[84]⟩, .string ⟨#[105]⟩, .string ⟨#[102]⟩, .string v, .int .i64 0, .int .i64 0, .int .i64 0, .int .i64 0, .slice none 0 0] 35 (0, 0)) := al_at (by simp)
  have LX : ((((w2.alloc (.cells #[.int .i64 3, .bool false, .int .i64 0, .int .i64 0, .string ⟨#[]⟩, .int .i64 0, .int .i64 0, .slice a1 0 a1n, .slice a2 0 a2n, .slice a3 2 a3n] 30 (0, 0))).alloc (.cells #[.int .i64 0, .int .i64 0] 3 (0, 0))).alloc (.cells #[.int .i64 0, .int .i64 1, .int .i64 2, .int .i64 4] 3 (0, 0))).alloc (.cells #[.int .i64 0, .int .i64 1, .int .i64 1, .slice (some ⟨w2.heap.size + 1, 0, none⟩) 2 2, .int .i64 4, .string ⟨#[84]⟩, .string ⟨#[105]⟩, .string ⟨#[102]⟩, .string v, .int .i64 0, .int .i64 0, .int .i64 0, .int .i64 0, .slice none 0 0] 35 (0, 0))).heap[w2.heap.size + 1]? = some (.cells #[.int .i64 0, .int .i64 0] 3 (0, 0)) := al_old (al_old (al_at (by simp)))
  have zX : ((((w2.alloc (.cells #[.int .i64 3, .bool false, .int .i64 0, .int .i64 0, .string ⟨#[]⟩, .int .i64 0, .int .i64 0, .slice a1 0 a1n, .slice a2 0 a2n, .slice a3 2 a3n] 30 (0, 0))).alloc (.cells #[.int .i64 0, .int .i64 0] 3 (0, 0))).alloc (.cells #[.int .i64 0, .int .i64 1, .int .i64 2, .int .i64 4] 3 (0, 0))).alloc (.cells #[.int .i64 0, .int .i64 1, .int .i64 1, .slice (some ⟨w2.heap.size + 1, 0, none⟩) 2 2, .int .i64 4, .string ⟨#[84]⟩, .string ⟨#[105]⟩, .string ⟨#[102]⟩, .string v, .int .i64 0, .int .i64 0, .int .i64 0, .int .i64 0, .slice none 0 0] 35 (0, 0))).heap.size = w2.heap.size + 1 + 1 + 1 + 1 := by simp
  have R2 := r2.no FX
  have FX := F2.trans FX
  clear r2 F2
  revert FX ZX LX zX R2
  generalize ((((w2.alloc (.cells #[.int .i64 3, .bool false, .int .i64 0, .int .i64 0, .string ⟨#[]⟩, .int .i64 0, .int .i64 0, .slice a1 0 a1n, .slice a2 0 a2n, .slice a3 2 a3n] 30 (0, 0))).alloc (.cells #[.int .i64 0, .int .i64 0] 3 (0, 0))).alloc (.cells #[.int .i64 0, .int .i64 1, .int .i64 2, .int .i64 4] 3 (0, 0))).alloc (.cells #[.int .i64 0, .int .i64 1, .int .i64 1, .slice (some ⟨w2.heap.size + 1, 0, none⟩) 2 2, .int .i64 4, .string ⟨#[84]⟩, .string ⟨#[105]⟩, .string ⟨#[102]⟩, .string v, .int .i64 0, .int .i64 0, .int .i64 0, .int .i64 0, .slice none 0 0] 35 (0, 0))) = X
  intro ZX LX zX R2 FX
  have DX : Ow X (fun k => k = w2.heap.size + 1) 3 eInt (.slice (some ⟨w2.heap.size + 1, 0, none⟩) 2 2) [0, 0] := Ow.row (l := [0, 0]) (c := 2) LX rfl (by decide) (by decide) rfl rfl
  refine (apply_gen T1.out (F := (fun x1 x2 x3 => .agg #[.int .i64 3, .bool false, .int .i64 0, .int .i64 0, .string ⟨#[]⟩, .int .i64 0, .int .i64 0, x1, x2, x3])) (fun _ _ _ => rfl) (e := 0) (l := 1) (s := 2) rfl rfl rfl R2 ⟨(by show 0 * 32 ≤ _; unfold reachBytes; omega), (by show 0 * 48 ≤ _; unfold reachBytes; omega), (by show 2 * 8 ≤ _; unfold reachBytes; omega)⟩ ⟨(by show 0 ≤ _; omega), (fun x hx => by cases hx), (fun x hx => by cases hx)⟩ ⟨DX.rd, RdS.nil _ _⟩ (opB_of (by show 1 ≤ 256; omega) (by show 1 ≤ 256; omega) (by show 1 ≤ 256; omega) HV.out)).mono ?_
  rintro e w3 ⟨d1, d1n, d2, d2n, d3, d3n, rfl, o3, f3⟩
  have F3 := FX.trans f3
  have Z3 := f3.obj ZX id
  have RD := o3.rd
  clear T1 FX ZX LX zX R2 DX o3 f3
  have n3 := lt_of_block Z3
  have n3a : w2.heap.size + 1 + 1 + 1 < w3.heap.size + 1 := by omega
  have n3b : w2.heap.size + 1 + 1 + 1 < w3.heap.size + 1 + 1 := by omega
  have n3c : w2.heap.size + 1 + 1 + 1 < w3.heap.size + 1 + 1 + 1 := by omega
  have n3d : w2.heap.size + 1 + 1 + 1 < w3.heap.size + 1 + 1 + 1 + 1 := by omega
  obtain ⟨t0, t1, t2, t3, t4, t5, t6, t7, t8, t9, t10, t11, t12, t13⟩ := obj14 Z3
  go_wp2_with (fail)

  have FY0 : Frm No w3 (((((w3.alloc (.cells #[.int .i64 3, .bool false, .int .i64 0, .int .i64 0, .string ⟨#[]⟩, .int .i64 0, .int .i64 0, .slice d1 0 d1n, .slice d2 1 d2n, .slice d3 2 d3n] 30 (0, 0))).alloc (.cells #[.int .i64 1, .int .i64 0] 3 (0, 0))).alloc (.cells #[.int .i64 0, .int .i64 2, .int .i64 2, .slice (some ⟨w3.heap.size + 1, 0, none⟩) 2 2, .int .i64 4, .string ⟨#[84]⟩, .string ⟨#[105]⟩, .string ⟨#[102]⟩, .string w, .int .i64 0, .int .i64 0, .int .i64 0, .int .i64 0, .slice none 0 0] 35 (0, 0))).alloc (.cells #[.int .i64 1, .int .i64 0] 3 (0, 0))).alloc (.cells #[.int .i64 1, .int .i64 1, .int .i64 2, .slice (some ⟨w3.heap.size + 1 + 1 + 1, 0, none⟩) 2 2, .int .i64 4, .string ⟨#[84]⟩, .string ⟨#[105]⟩, .string ⟨#[102]⟩, .string v, .int .i64 0, .int .i64 0, .int .i64 0, .int .i64 0, .slice none 0 0] 35 (0, 0))) := (((((Frm.refl No w3).al _).al _).al _).al _).al _
  have hD : (((((w3.alloc (.cells #[.int .i64 3, .bool false, .int .i64 0, .int .i64 0, .string ⟨#[]⟩, .int .i64 0, .int .i64 0, .slice d1 0 d1n, .slice d2 1 d2n, .slice d3 2 d3n] 30 (0, 0))).alloc (.cells #[.int .i64 1, .int .i64 0] 3 (0, 0))).alloc (.cells #[.int .i64 0, .int .i64 2, .int .i64 2, .slice (some ⟨w3.heap.size + 1, 0, none⟩) 2 2, .int .i64 4, .string ⟨#[84]⟩, .string ⟨#[105]⟩, .string ⟨#[102]⟩, .string w, .int .i64 0, .int .i64 0, .int .i64 0, .int .i64 0, .slice none 0 0] 35 (0, 0))).alloc (.cells #[.int .i64 1, .int .i64 0] 3 (0, 0))).alloc (.cells #[.int .i64 1, .int .i64 1, .int .i64 2, .slice (some ⟨w3.heap.size + 1 + 1 + 1, 0, none⟩) 2 2, .int .i64 4, .string ⟨#[84]⟩, .string ⟨#[105]⟩, .string ⟨#[102]⟩, .string v, .int .i64 0, .int .i64 0, .int .i64 0, .int .i64 0, .slice none 0 0] 35 (0, 0))).heap[w3.heap.size]? = some (.cells #[.int .i64 3, .bool false, .int .i64 0, .int .i64 0, .string ⟨#[]⟩, .int .i64 0, .int .i64 0, .slice d1 0 d1n, .slice d2 1 d2n, .slice d3 2 d3n] 30 (0, 0)) := al_old (al_old (al_old (al_old (heap_alloc_new w3 _))))
  have hL : (((((w3.alloc (.cells #[.int .i64 3, .bool false, .int .i64 0, .int .i64 0, .string ⟨#[]⟩, .int .i64 0, .int .i64 0, .slice d1 0 d1n, .slice d2 1 d2n, .slice d3 2 d3n] 30 (0, 0))).alloc (.cells #[.int .i64 1, .int .i64 0] 3 (0, 0))).alloc (.cells #[.int .i64 0, .int .i64 2, .int .i64 2, .slice (some ⟨w3.heap.size + 1, 0, none⟩) 2 2, .int .i64 4, .string ⟨#[84]⟩, .string ⟨#[105]⟩, .string ⟨#[102]⟩, .string w, .int .i64 0, .int .i64 0, .int .i64 0, .int .i64 0, .slice none 0 0] 35 (0, 0))).alloc (.cells #[.int .i64 1, .int .i64 0] 3 (0, 0))).alloc (.cells #[.int .i64 1, .int .i64 1, .int .i64 2, .slice (some ⟨w3.heap.size + 1 + 1 + 1, 0, none⟩) 2 2, .int .i64 4, .string ⟨#[84]⟩, .string ⟨#[105]⟩, .string ⟨#[102]⟩, .string v, .int .i64 0, .int .i64 0, .int .i64 0, .int .i64 0, .slice none 0 0] 35 (0, 0))).heap[w3.heap.size + 1]? = some (.cells #[.int .i64 1, .int .i64 0] 3 (0, 0)) := al_old (al_old (al_old (al_at (by simp))))
  have hA : (((((w3.alloc (.cells #[.int .i64 3, .bool false, .int .i64 0, .int .i64 0, .string ⟨#[]⟩, .int .i64 0, .int .i64 0, .slice d1 0 d1n, .slice d2 1 d2n, .slice d3 2 d3n] 30 (0, 0))).alloc (.cells #[.int .i64 1, .int .i64 0] 3 (0, 0))).alloc (.cells #[.int .i64 0, .int .i64 2, .int .i64 2, .slice (some ⟨w3.heap.size + 1, 0, none⟩) 2 2, .int .i64 4, .string ⟨#[84]⟩, .string ⟨#[105]⟩, .string ⟨#[102]⟩, .string w, .int .i64 0, .int .i64 0, .int .i64 0, .int .i64 0, .slice none 0 0] 35 (0, 0))).alloc (.cells #[.int .i64 1, .int .i64 0] 3 (0, 0))).alloc (.cells #[.int .i64 1, .int .i64 1, .int .i64 2, .slice (some ⟨w3.heap.size + 1 + 1 + 1, 0, none⟩) 2 2, .int .i64 4, .string ⟨#[84]⟩, .string ⟨#[105]⟩, .string ⟨#[102]⟩, .string v, .int .i64 0, .int .i64 0, .int .i64 0, .int .i64 0, .slice none 0 0] 35 (0, 0))).heap[w3.heap.size + 1 + 1]? = some (.cells #[.int .i64 0, .int .i64 2, .int .i64 2, .slice (some ⟨w3.heap.size + 1, 0, none⟩) 2 2, .int .i64 4, .string ⟨#[84]⟩, .string ⟨#[105]⟩, .string ⟨#[102]⟩, .string w, .int .i64 0, .int .i64 0, .int .i64 0, .int .i64 0, .slice none 0 0] 35 (0, 0)) := al_old (al_old (al_at (by simp)))
  have hM : (((((w3.alloc (.cells #[.int .i64 3, .bool false, .int .i64 0, .int .i64 0, .string ⟨#[]⟩, .int .i64 0, .int .i64 0, .slice d1 0 d1n, .slice d2 1 d2n, .slice d3 2 d3n] 30 (0, 0))).alloc (.cells #[.int .i64 1, .int .i64 0] 3 (0, 0))).alloc (.cells #[.int .i64 0, .int .i64 2, .int .i64 2, .slice (some ⟨w3.heap.size + 1, 0, none⟩) 2 2, .int .i64 4, .string ⟨#[84]⟩, .string ⟨#[105]⟩, .string ⟨#[102]⟩, .string w, .int .i64 0, .int .i64 0, .int .i64 0, .int .i64 0, .slice none 0 0] 35 (0, 0))).alloc (.cells #[.int .i64 1, .int .i64 0] 3 (0, 0))).alloc (.cells #[.int .i64 1, .int .i64 1, .int .i64 2, .slice (some ⟨w3.heap.size + 1 + 1 + 1, 0, none⟩) 2 2, .int .i64 4, .string ⟨#[84]⟩, .string ⟨#[105]⟩, .string ⟨#[102]⟩, .string v, .int .i64 0, .int .i64 0, .int .i64 0, .int .i64 0, .slice none 0 0] 35 (0, 0))).heap[w3.heap.size + 1 + 1 + 1]? = some (.cells #[.int .i64 1, .int .i64 0] 3 (0, 0)) := al_old (al_at (by simp))
  have hB : (((((w3.alloc (.cells #[.int .i64 3, .bool false, .int .i64 0, .int .i64 0, .string ⟨#[]⟩, .int .i64 0, .int .i64 0, .slice d1 0 d1n, .slice d2 1 d2n, .slice d3 2 d3n] 30 (0, 0))).alloc (.cells #[.int .i64 1, .int .i64 0] 3 (0, 0))).alloc (.cells #[.int .i64 0, .int .i64 2, .int .i64 2, .slice (some ⟨w3.heap.size + 1, 0, none⟩) 2 2, .int .i64 4, .string ⟨#[84]⟩, .string ⟨#[105]⟩, .string ⟨#[102]⟩, .string w, .int .i64 0, .int .i64 0, .int .i64 0, .int .i64 0, .slice none 0 0] 35 (0, 0))).alloc (.cells #[.int .i64 1, .int .i64 0] 3 (0, 0))).alloc (.cells #[.int .i64 1, .int .i64 1, .int .i64 2, .slice (some ⟨w3.heap.size + 1 + 1 + 1, 0, none⟩) 2 2, .int .i64 4, .string ⟨#[84]⟩, .string ⟨#[105]⟩, .string ⟨#[102]⟩, .string v, .int .i64 0, .int .i64 0, .int .i64 0, .int .i64 0, .slice none 0 0] 35 (0, 0))).heap[w3.heap.size + 1 + 1 + 1 + 1]? = some (.cells #[.int .i64 1, .int .i64 1, .int .i64 2, .slice (some ⟨w3.heap.size + 1 + 1 + 1, 0, none⟩) 2 2, .int .i64 4, .string ⟨#[84]⟩, .string ⟨#[105]⟩, .string ⟨#[102]⟩, .string v, .int .i64 0, .int .i64 0, .int .i64 0, .int .i64 0, .slice none 0 0] 35 (0, 0)) := al_at (by simp)
  have RD0 := RD.no FY0
  have FY := F3.trans FY0
  clear F3 RD FY0 Z3 n3 n3a n3b n3c n3d t0 t1 t2 t3 t4 t5 t6 t7 t8 t9 t10 t11 t12 t13
  revert hD hL hA hM hB RD0 FY
  generalize (((((w3.alloc (.cells #[.int .i64 3, .bool false, .int .i64 0, .int .i64 0, .string ⟨#[]⟩, .int .i64 0, .int .i64 0, .slice d1 0 d1n, .slice d2 1 d2n, .slice d3 2 d3n] 30 (0, 0))).alloc (.cells #[.int .i64 1, .int .i64 0] 3 (0, 0))).alloc (.cells #[.int .i64 0, .int .i64 2, .int .i64 2, .slice (some ⟨w3.heap.size + 1, 0, none⟩) 2 2, .int .i64 4, .string ⟨#[84]⟩, .string ⟨#[105]⟩, .string ⟨#[102]⟩, .string w, .int .i64 0, .int .i64 0, .int .i64 0, .int .i64 0, .slice none 0 0] 35 (0, 0))).alloc (.cells #[.int .i64 1, .int .i64 0] 3 (0, 0))).alloc (.cells #[.int .i64 1, .int .i64 1, .int .i64 2, .slice (some ⟨w3.heap.size + 1 + 1 + 1, 0, none⟩) 2 2, .int .i64 4, .string ⟨#[84]⟩, .string ⟨#[105]⟩, .string ⟨#[102]⟩, .string v, .int .i64 0, .int .i64 0, .int .i64 0, .int .i64 0, .slice none 0 0] 35 (0, 0))) = Y
  intro hD hL hA hM hB RD0 FY
  have hLA : Ow Y (fun k => k = w3.heap.size + 1) 3 eInt (.slice (some ⟨w3.heap.size + 1, 0, none⟩) 2 2) [1, 0] := Ow.row (l := [1, 0]) (c := 2) hL rfl (by decide) (by decide) rfl rfl
  have hLB : Ow Y (fun k => k = w3.heap.size + 1 + 1 + 1) 3 eInt (.slice (some ⟨w3.heap.size + 1 + 1 + 1, 0, none⟩) 2 2) [1, 0] := Ow.row (l := [1, 0]) (c := 2) hM rfl (by decide) (by decide) rfl rfl
  have OA : OpR Y (opP 4 w (0, 0) (0, 0)) (.slice (some ⟨w3.heap.size + 1, 0, none⟩) 2 2) (.slice none 0 0) := ⟨hLA.rd, RdS.nil _ _⟩
  have OB : OpR Y (opQ 4 v (0, 0) (0, 0) []) (.slice (some ⟨w3.heap.size + 1 + 1 + 1, 0, none⟩) 2 2) (.slice none 0 0) := ⟨hLB.rd, RdS.nil _ _⟩
  clear hL hM hLA hLB 
  refine (apply_gen T2.out (F := (fun x1 x2 x3 => .agg #[.int .i64 3, .bool false, .int .i64 0, .int .i64 0, .string ⟨#[]⟩, .int .i64 0, .int .i64 0, x1, x2, x3])) (fun _ _ _ => rfl) (e := 0) (l := 2) (s := 2) rfl rfl rfl RD0 ⟨(by show 0 * 32 ≤ _; unfold reachBytes; omega), (by show 1 * 48 ≤ _; unfold reachBytes; omega), (by show 2 * 8 ≤ _; unfold reachBytes; omega)⟩ ⟨(by show 0 ≤ _; omega), (fun x hx => by cases hx), (fun x hx => by have h1 := HV.out; have h2 := HW.out; simp only [c3, List.mem_cons, List.not_mem_nil, or_false] at hx; (try rcases hx with rfl | rfl | rfl) <;> (try rcases hx with rfl | rfl) <;> (try subst hx) <;> first | exact small_of HV.out | exact small_of HW.out | exact small_of (show (0 : Nat) ≤ 256 by omega) | exact hx.elim)⟩ OA (opB_of (by show 1 ≤ 256; omega) (by show 1 ≤ 256; omega) (by show 1 ≤ 256; omega) HW.out)).mono ?_
  rintro e w4 ⟨p1, p1n, p2, p2n, p3, p3n, rfl, ow4, fw4⟩
  have F4 := FY.trans fw4
  have D4 := fw4.obj hD id
  have A4 := fw4.obj hA id
  have B4 := fw4.obj hB id
  have OA4 := OA.no fw4
  have OB4 := OB.no fw4
  have RD4 := RD0.no fw4
  have RP := ow4.rd
  clear FY hD hA hB OA OB RD0 ow4 fw4 T2
  have nA := lt_of_block A4
  have nB := lt_of_block B4
  have nD := lt_of_block D4
  obtain ⟨t0, t1, t2, t3, t4, t5, t6, t7, t8, t9, t10, t11, t12, t13⟩ := obj14 B4
  go_wp2_with (fail)
  clear t0 t1 t2 t3 t4 t5 t6 t7 t8 t9 t10 t11 t12 t13
  have G4 := (Frm.refl No w4).al (.cells #[.int .i64 3, .bool false, .int .i64 0, .int .i64 0, .string ⟨#[]⟩, .int .i64 0, .int .i64 0, .slice p1 0 p1n, .slice p2 2 p2n, .slice p3 2 p3n] 30 (0, 0))
  refine (apply_gen T3.out (F := (fun x1 x2 x3 => .agg #[.int .i64 3, .bool false, .int .i64 0, .int .i64 0, .string ⟨#[]⟩, .int .i64 0, .int .i64 0, x1, x2, x3])) (fun _ _ _ => rfl) (e := 0) (l := 3) (s := 2) rfl rfl rfl (RP.no G4) ⟨(by show 0 * 32 ≤ _; unfold reachBytes; omega), (by show 2 * 48 ≤ _; unfold reachBytes; omega), (by show 2 * 8 ≤ _; unfold reachBytes; omega)⟩ ⟨(by show 0 ≤ _; omega), (fun x hx => by cases hx), (fun x hx => by have h1 := HV.out; have h2 := HW.out; simp only [c3, List.mem_cons, List.not_mem_nil, or_false] at hx; (try rcases hx with rfl | rfl | rfl) <;> (try rcases hx with rfl | rfl) <;> (try subst hx) <;> first | exact small_of HV.out | exact small_of HW.out | exact small_of (show (0 : Nat) ≤ 256 by omega) | exact hx.elim)⟩ (OB4.no G4) (opB_of (by show 1 ≤ 256; omega) (by show 1 ≤ 256; omega) (by show 1 ≤ 256; omega) HV.out)).mono ?_
  rintro e w5 ⟨q1, q1n, q2, q2n, q3, q3n, rfl, ow5, fw5⟩
  have G4 := G4.trans fw5
  have F5 := F4.trans G4
  have D5 := G4.obj D4 id
  have A5 := G4.obj A4 id
  have B5 := G4.obj B4 id
  have OA5 := OA4.no G4
  have OB5 := OB4.no G4
  have RD5 := RD4.no G4
  have RQ := ow5.rd
  clear F4 D4 A4 B4 OA4 OB4 RD4 ow5 fw5 G4 T3 nA nB nD RP
  have nA := lt_of_block A5
  have nB := lt_of_block B5
  have nD := lt_of_block D5
  obtain ⟨q0, q1, q2, q3, q4, q5, q6, q7, q8, q9⟩ := obj10 D5
  obtain ⟨t0, t1, t2, t3, t4, t5, t6, t7, t8, t9, t10, t11, t12, t13⟩ := obj14 B5
  go_wp2_with (fail)
  clear q0 q1 q2 q3 q4 q5 q6 q7 q8 q9 t0 t1 t2 t3 t4 t5 t6 t7 t8 t9 t10 t11 t12 t13
  have G5 := (Frm.refl No w5).al (.cells #[.int .i64 3, .bool false, .int .i64 0, .int .i64 0, .string ⟨#[]⟩, .int .i64 0, .int .i64 0, .slice q1 0 q1n, .slice q2 3 q2n, .slice q3 2 q3n] 30 (0, 0))
  refine (apply_gen T4.out (F := (fun x1 x2 x3 => .agg #[.int .i64 3, .bool false, .int .i64 0, .int .i64 0, .string ⟨#[]⟩, .int .i64 0, .int .i64 0, x1, x2, x3])) (fun _ _ _ => rfl) (e := 0) (l := 2) (s := 2) rfl rfl rfl (RD5.no G5) ⟨(by show 0 * 32 ≤ _; unfold reachBytes; omega), (by show 1 * 48 ≤ _; unfold reachBytes; omega), (by show 2 * 8 ≤ _; unfold reachBytes; omega)⟩ ⟨(by show 0 ≤ _; omega), (fun x hx => by cases hx), (fun x hx => by have h1 := HV.out; have h2 := HW.out; simp only [c3, List.mem_cons, List.not_mem_nil, or_false] at hx; (try rcases hx with rfl | rfl | rfl) <;> (try rcases hx with rfl | rfl) <;> (try subst hx) <;> first | exact small_of HV.out | exact small_of HW.out | exact small_of (show (0 : Nat) ≤ 256 by omega) | exact hx.elim)⟩ (OB5.no G5) (opB_of (by show 1 ≤ 256; omega) (by show 1 ≤ 256; omega) (by show 1 ≤ 256; omega) HV.out)).mono ?_
  rintro e w6 ⟨r1, r1n, r2, r2n, r3, r3n, rfl, ow6, fw6⟩
  have Q5 := heap_alloc_new w5 (.cells #[.int .i64 3, .bool false, .int .i64 0, .int .i64 0, .string ⟨#[]⟩, .int .i64 0, .int .i64 0, .slice q1 0 q1n, .slice q2 3 q2n, .slice q3 2 q3n] 30 (0, 0))
  have Q6 := fw6.obj Q5 id
  have G5 := G5.trans fw6
  have F6 := F5.trans G5
  have A6 := G5.obj A5 id
  have OA6 := OA5.no G5
  have RQ6 := RQ.no G5
  have RR := ow6.rd
  clear F5 D5 A5 B5 OA5 OB5 RD5 ow6 fw6 G5 T4 nA nB nD RQ Q5
  have nA := lt_of_block A6
  have nQ := lt_of_block Q6
  obtain ⟨t0, t1, t2, t3, t4, t5, t6, t7, t8, t9, t10, t11, t12, t13⟩ := obj14 A6
  go_wp2_with (fail)
  clear t0 t1 t2 t3 t4 t5 t6 t7 t8 t9 t10 t11 t12 t13
  have G6 := (Frm.refl No w6).al (.cells #[.int .i64 3, .bool false, .int .i64 0, .int .i64 0, .string ⟨#[]⟩, .int .i64 0, .int .i64 0, .slice r1 0 r1n, .slice r2 2 r2n, .slice r3 2 r3n] 30 (0, 0))
  refine (apply_gen T5.out (F := (fun x1 x2 x3 => .agg #[.int .i64 3, .bool false, .int .i64 0, .int .i64 0, .string ⟨#[]⟩, .int .i64 0, .int .i64 0, x1, x2, x3])) (fun _ _ _ => rfl) (e := 0) (l := 3) (s := 2) rfl rfl rfl (RR.no G6) ⟨(by show 0 * 32 ≤ _; unfold reachBytes; omega), (by show 2 * 48 ≤ _; unfold reachBytes; omega), (by show 2 * 8 ≤ _; unfold reachBytes; omega)⟩ ⟨(by show 0 ≤ _; omega), (fun x hx => by cases hx), (fun x hx => by have h1 := HV.out; have h2 := HW.out; simp only [c3, List.mem_cons, List.not_mem_nil, or_false] at hx; (try rcases hx with rfl | rfl | rfl) <;> (try rcases hx with rfl | rfl) <;> (try subst hx) <;> first | exact small_of HV.out | exact small_of HW.out | exact small_of (show (0 : Nat) ≤ 256 by omega) | exact hx.elim)⟩ (OA6.no G6) (opB_of (by show 1 ≤ 256; omega) (by show 1 ≤ 256; omega) (by show 1 ≤ 256; omega) HW.out)).mono ?_
  rintro e w7 ⟨s1, s1n, s2, s2n, s3, s3n, rfl, ow7, fw7⟩
  have Q7 := (G6.trans fw7).obj Q6 id
  have G6 := G6.trans fw7
  have F7 := F6.trans G6
  have RQ7 := RQ6.no G6
  have RS := ow7.rd
  clear F6 A6 OA6 ow7 fw7 G6 T5 nA nQ RQ6 RR Q6
  have nQ := lt_of_block Q7
  obtain ⟨q0, q1, q2, q3, q4, q5, q6, q7, q8, q9⟩ := obj10 Q7
  go_wp2_with (go_at_call 18; refine (num_ok _ _).mono ?_; rintro e w' ⟨rfl, rfl⟩)
  have G7 := (Frm.refl No w7).al (.cells #[.int .i64 3, .bool false, .int .i64 0, .int .i64 0, .string ⟨#[]⟩, .int .i64 0, .int .i64 0, .slice s1 0 s1n, .slice s2 3 s2n, .slice s3 2 s3n] 30 (0, 0))
  refine (sameCell_ok (RQ7.no G7) (RS.no G7)).mono ?_
  rintro e w8 ⟨rfl, f8⟩
  have G7 := G7.trans f8
  have F8 := F7.trans G7
  have RQ8 := RQ7.no G7
  have Q8 := G7.obj Q7 id
  clear F7 RQ7 RS Q7 f8 G7 nQ
  clear q0 q1 q2 q3 q4 q5 q6 q7 q8 q9
  have nQ := lt_of_block Q8
  obtain ⟨q0, q1, q2, q3, q4, q5, q6, q7, q8, q9⟩ := obj10 Q8
  go_wp2_with (fail)
  have L8 : RdS (w8.alloc (.cells #[.int .i64 2, .int .i64 1] 3 (0, 0))) eInt (.slice (some ⟨w8.heap.size, 0, none⟩) 2 2) [2, 1] := RdS_lits w8 eInt [2, 1] 3 (g := w8.heap.size) (n := 2) rfl rfl (by decide)
  refine (sameInts_ok (RQ8.s.no ((Frm.refl No w8).al _)) L8).mono ?_
  rintro e w9 ⟨rfl, k, hw9⟩
  have G8 : Frm No w8 w9 := by rw [hw9]; exact ((Frm.refl No w8).al _).dr k
  clear hw9
  rw [show decide ((c3 [(1, 1, 2, v, false), (0, 2, 2, w, false), (0, 1, 1, v, false)] [2, 1]).seen = [2, 1]) = true from rfl]
  go_wp2_with (fail)
  go_ret
  exact ⟨rfl, F8.trans G8⟩
end Go.Proofs.YtofikfkgiblblaaGreatDoor

/- tattlelaw12.CellTwo, one of its six ways. -/
namespace Go.Proofs.YtofikfkgiblblaaGreatDoor
set_option linter.unusedVariables false
set_option linter.unusedSimpArgs false
open Go.RowKit Go.Lib Go.Tt Go.Shelf
set_option maxHeartbeats 8000000 in
set_option maxRecDepth 100000 in
theorem ltwo3o {w0 : World} (tab : Tab w0) (kind x : Int) (hk : (IntKind.u64.wrap kind).tmod 4 = 3) {v w : ByteArray} (hv : v.size ≤ 256) (hw : w.size ≤ 256) (hx : bits .and .i64 x 1 = 1) :
    Calls Tryz.prog 8 #[.int .i64 kind, .string v, .string w, .int .i64 x] w0 fun e w' => e = .returned (.bool true) ∧ Frm No w0 w' := by
  obtain ⟨T1, T2, T3, T4, T5, T6⟩ := two3' hv hw
  replace T1 := Lib.hid T1
  replace T2 := Lib.hid T2
  replace T3 := Lib.hid T3
  replace T4 := Lib.hid T4
  replace T5 := Lib.hid T5
  clear T6
  have HV := Lib.hid hv
  have HW := Lib.hid hw
  have g1 : ¬ (256 < (v.size : Int)) := by omega
  have g2 : ¬ (256 < (w.size : Int)) := by omega
  have HA := Lib.hid (awake_ok tab)
  clear hv hw tab
  go_enter Tryz.func8, Tryz.ntmps8
  go_wp2_with (fail)
  refine HA.out.mono ?_
  rintro e w1 ⟨rfl, F1⟩
  clear HA
  go_wp2_with (fail)
  refine (new_gen (F := (fun x1 x2 x3 => .agg #[.int .i64 3, .bool false, .int .i64 0, .int .i64 0, .string ⟨#[]⟩, .int .i64 0, .int .i64 0, x1, x2, x3])) (show newF 3 2 = (newC 3 2, 0) from rfl) (fun _ _ _ => rfl) (e := 0) (l := 0) (s := 2) rfl rfl rfl w1).mono ?_
  rintro e w2 ⟨a1, a1n, a2, a2n, a3, a3n, rfl, r2, f2⟩
  have F2 := F1.trans f2
  clear F1 f2
  go_wp2_with (fail)
  have FX : Frm No w2 ((((w2.alloc (.cells #[.int .i64 3, .bool false, .int .i64 0, .int .i64 0, .string ⟨#[]⟩, .int .i64 0, .int .i64 0, .slice a1 0 a1n, .slice a2 0 a2n, .slice a3 2 a3n] 30 (0, 0))).alloc (.cells #[.int .i64 0, .int .i64 0] 3 (0, 0))).alloc (.cells #[.int .i64 0, .int .i64 1, .int .i64 2, .int .i64 4] 3 (0, 0))).alloc (.cells #[.int .i64 0, .int .i64 1, .int .i64 1, .slice (some ⟨w2.heap.size + 1, 0, none⟩) 2 2, .int .i64 4, .string ⟨#[84]⟩, .string ⟨#[105]⟩, .string ⟨#[102]⟩, .string v, .int .i64 0, .int .i64 0, .int .i64 0, .int .i64 0, .slice none 0 0] 35 (0, 0))) := ((((Frm.refl No w2).al _).al _).al _).al _
  have ZX : ((((w2.alloc (.cells #[.int .i64 3, .bool false, .int .i64 0, .int .i64 0, .string ⟨#[]⟩, .int .i64 0, .int .i64 0, .slice a1 0 a1n, .slice a2 0 a2n, .slice a3 2 a3n] 30 (0, 0))).alloc (.cells #[.int .i64 0, .int .i64 0] 3 (0, 0))).alloc (.cells #[.int .i64 0, .int .i64 1, .int .i64 2, .int .i64 4] 3 (0, 0))).alloc (.cells #[.int .i64 0, .int .i64 1, .int .i64 1, .slice (some ⟨w2.heap.size + 1, 0, none⟩) 2 2, .int .i64 4, .string ⟨#[84]⟩, .string ⟨#[105]⟩, .string ⟨#[102]⟩, .string v, .int .i64 0, .int .i64 0, .int .i64 0, .int .i64 0, .slice none 0 0] 35 (0, 0))).heap[w2.heap.size + 1 + 1 + 1]? = some (.cells #[.int .i64 0, .int .i64 1, .int .i64 1, .slice (some ⟨w2.heap.size + 1, 0, none⟩) 2 2, .int .i64 4, .string ⟨#[84]⟩, .string ⟨#[105]⟩, .string ⟨#[102]⟩, .string v, .int .i64 0, .int .i64 0, .int .i64 0, .int .i64 0, .slice none 0 0] 35 (0, 0)) := al_at (by simp)
  have LX : ((((w2.alloc (.cells #[.int .i64 3, .bool false, .int .i64 0, .int .i64 0, .string ⟨#[]⟩, .int .i64 0, .int .i64 0, .slice a1 0 a1n, .slice a2 0 a2n, .slice a3 2 a3n] 30 (0, 0))).alloc (.cells #[.int .i64 0, .int .i64 0] 3 (0, 0))).alloc (.cells #[.int .i64 0, .int .i64 1, .int .i64 2, .int .i64 4] 3 (0, 0))).alloc (.cells #[.int .i64 0, .int .i64 1, .int .i64 1, .slice (some ⟨w2.heap.size + 1, 0, none⟩) 2 2, .int .i64 4, .string ⟨#[84]⟩, .string ⟨#[105]⟩, .string ⟨#[102]⟩, .string v, .int .i64 0, .int .i64 0, .int .i64 0, .int .i64 0, .slice none 0 0] 35 (0, 0))).heap[w2.heap.size + 1]? = some (.cells #[.int .i64 0, .int .i64 0] 3 (0, 0)) := al_old (al_old (al_at (by simp)))
  have zX : ((((w2.alloc (.cells #[.int .i64 3, .bool false, .int .i64 0, .int .i64 0, .string ⟨#[]⟩, .int .i64 0, .int .i64 0, .slice a1 0 a1n, .slice a2 0 a2n, .slice a3 2 a3n] 30 (0, 0))).alloc (.cells #[.int .i64 0, .int .i64 0] 3 (0, 0))).alloc (.cells #[.int .i64 0, .int .i64 1, .int .i64 2, .int .i64 4] 3 (0, 0))).alloc (.cells #[.int .i64 0, .int .i64 1, .int .i64 1, .slice (some ⟨w2.heap.size + 1, 0, none⟩) 2 2, .int .i64 4, .string ⟨#[84]⟩, .string ⟨#[105]⟩, .string ⟨#[102]⟩, .string v, .int .i64 0, .int .i64 0, .int .i64 0, .int .i64 0, .slice none 0 0] 35 (0, 0))).heap.size = w2.heap.size + 1 + 1 + 1 + 1 := by simp
  have R2 := r2.no FX
  have FX := F2.trans FX
  clear r2 F2
  revert FX ZX LX zX R2
  generalize ((((w2.alloc (.cells #[.int .i64 3, .bool false, .int .i64 0, .int .i64 0, .string ⟨#[]⟩, .int .i64 0, .int .i64 0, .slice a1 0 a1n, .slice a2 0 a2n, .slice a3 2 a3n] 30 (0, 0))).alloc (.cells #[.int .i64 0, .int .i64 0] 3 (0, 0))).alloc (.cells #[.int .i64 0, .int .i64 1, .int .i64 2, .int .i64 4] 3 (0, 0))).alloc (.cells #[.int .i64 0, .int .i64 1, .int .i64 1, .slice (some ⟨w2.heap.size + 1, 0, none⟩) 2 2, .int .i64 4, .string ⟨#[84]⟩, .string ⟨#[105]⟩, .string ⟨#[102]⟩, .string v, .int .i64 0, .int .i64 0, .int .i64 0, .int .i64 0, .slice none 0 0] 35 (0, 0))) = X
  intro ZX LX zX R2 FX
  have DX : Ow X (fun k => k = w2.heap.size + 1) 3 eInt (.slice (some ⟨w2.heap.size + 1, 0, none⟩) 2 2) [0, 0] := Ow.row (l := [0, 0]) (c := 2) LX rfl (by decide) (by decide) rfl rfl
  refine (apply_gen T1.out (F := (fun x1 x2 x3 => .agg #[.int .i64 3, .bool false, .int .i64 0, .int .i64 0, .string ⟨#[]⟩, .int .i64 0, .int .i64 0, x1, x2, x3])) (fun _ _ _ => rfl) (e := 0) (l := 1) (s := 2) rfl rfl rfl R2 ⟨(by show 0 * 32 ≤ _; unfold reachBytes; omega), (by show 0 * 48 ≤ _; unfold reachBytes; omega), (by show 2 * 8 ≤ _; unfold reachBytes; omega)⟩ ⟨(by show 0 ≤ _; omega), (fun x hx => by cases hx), (fun x hx => by cases hx)⟩ ⟨DX.rd, RdS.nil _ _⟩ (opB_of (by show 1 ≤ 256; omega) (by show 1 ≤ 256; omega) (by show 1 ≤ 256; omega) HV.out)).mono ?_
  rintro e w3 ⟨d1, d1n, d2, d2n, d3, d3n, rfl, o3, f3⟩
  have F3 := FX.trans f3
  have Z3 := f3.obj ZX id
  have RD := o3.rd
  clear T1 FX ZX LX zX R2 DX o3 f3
  have n3 := lt_of_block Z3
  have n3a : w2.heap.size + 1 + 1 + 1 < w3.heap.size + 1 := by omega
  have n3b : w2.heap.size + 1 + 1 + 1 < w3.heap.size + 1 + 1 := by omega
  have n3c : w2.heap.size + 1 + 1 + 1 < w3.heap.size + 1 + 1 + 1 := by omega
  have n3d : w2.heap.size + 1 + 1 + 1 < w3.heap.size + 1 + 1 + 1 + 1 := by omega
  obtain ⟨t0, t1, t2, t3, t4, t5, t6, t7, t8, t9, t10, t11, t12, t13⟩ := obj14 Z3
  go_wp2_with (fail)

  have FY0 : Frm No w3 (((((w3.alloc (.cells #[.int .i64 3, .bool false, .int .i64 0, .int .i64 0, .string ⟨#[]⟩, .int .i64 0, .int .i64 0, .slice d1 0 d1n, .slice d2 1 d2n, .slice d3 2 d3n] 30 (0, 0))).alloc (.cells #[.int .i64 1, .int .i64 0] 3 (0, 0))).alloc (.cells #[.int .i64 0, .int .i64 2, .int .i64 2, .slice (some ⟨w3.heap.size + 1, 0, none⟩) 2 2, .int .i64 4, .string ⟨#[84]⟩, .string ⟨#[105]⟩, .string ⟨#[102]⟩, .string w, .int .i64 0, .int .i64 0, .int .i64 0, .int .i64 1, .slice none 0 0] 35 (0, 0))).alloc (.cells #[.int .i64 1, .int .i64 0] 3 (0, 0))).alloc (.cells #[.int .i64 1, .int .i64 1, .int .i64 2, .slice (some ⟨w3.heap.size + 1 + 1 + 1, 0, none⟩) 2 2, .int .i64 5, .string ⟨#[84]⟩, .string ⟨#[105]⟩, .string ⟨#[102]⟩, .string ⟨#[]⟩, .int .i64 0, .int .i64 0, .int .i64 0, .int .i64 1, .slice none 0 0] 35 (0, 0))) := (((((Frm.refl No w3).al _).al _).al _).al _).al _
  have hD : (((((w3.alloc (.cells #[.int .i64 3, .bool false, .int .i64 0, .int .i64 0, .string ⟨#[]⟩, .int .i64 0, .int .i64 0, .slice d1 0 d1n, .slice d2 1 d2n, .slice d3 2 d3n] 30 (0, 0))).alloc (.cells #[.int .i64 1, .int .i64 0] 3 (0, 0))).alloc (.cells #[.int .i64 0, .int .i64 2, .int .i64 2, .slice (some ⟨w3.heap.size + 1, 0, none⟩) 2 2, .int .i64 4, .string ⟨#[84]⟩, .string ⟨#[105]⟩, .string ⟨#[102]⟩, .string w, .int .i64 0, .int .i64 0, .int .i64 0, .int .i64 1, .slice none 0 0] 35 (0, 0))).alloc (.cells #[.int .i64 1, .int .i64 0] 3 (0, 0))).alloc (.cells #[.int .i64 1, .int .i64 1, .int .i64 2, .slice (some ⟨w3.heap.size + 1 + 1 + 1, 0, none⟩) 2 2, .int .i64 5, .string ⟨#[84]⟩, .string ⟨#[105]⟩, .string ⟨#[102]⟩, .string ⟨#[]⟩, .int .i64 0, .int .i64 0, .int .i64 0, .int .i64 1, .slice none 0 0] 35 (0, 0))).heap[w3.heap.size]? = some (.cells #[.int .i64 3, .bool false, .int .i64 0, .int .i64 0, .string ⟨#[]⟩, .int .i64 0, .int .i64 0, .slice d1 0 d1n, .slice d2 1 d2n, .slice d3 2 d3n] 30 (0, 0)) := al_old (al_old (al_old (al_old (heap_alloc_new w3 _))))
  have hL : (((((w3.alloc (.cells #[.int .i64 3, .bool false, .int .i64 0, .int .i64 0, .string ⟨#[]⟩, .int .i64 0, .int .i64 0, .slice d1 0 d1n, .slice d2 1 d2n, .slice d3 2 d3n] 30 (0, 0))).alloc (.cells #[.int .i64 1, .int .i64 0] 3 (0, 0))).alloc (.cells #[.int .i64 0, .int .i64 2, .int .i64 2, .slice (some ⟨w3.heap.size + 1, 0, none⟩) 2 2, .int .i64 4, .string ⟨#[84]⟩, .string ⟨#[105]⟩, .string ⟨#[102]⟩, .string w, .int .i64 0, .int .i64 0, .int .i64 0, .int .i64 1, .slice none 0 0] 35 (0, 0))).alloc (.cells #[.int .i64 1, .int .i64 0] 3 (0, 0))).alloc (.cells #[.int .i64 1, .int .i64 1, .int .i64 2, .slice (some ⟨w3.heap.size + 1 + 1 + 1, 0, none⟩) 2 2, .int .i64 5, .string ⟨#[84]⟩, .string ⟨#[105]⟩, .string ⟨#[102]⟩, .string ⟨#[]⟩, .int .i64 0, .int .i64 0, .int .i64 0, .int .i64 1, .slice none 0 0] 35 (0, 0))).heap[w3.heap.size + 1]? = some (.cells #[.int .i64 1, .int .i64 0] 3 (0, 0)) := al_old (al_old (al_old (al_at (by simp))))
  have hA : (((((w3.alloc (.cells #[.int .i64 3, .bool false, .int .i64 0, .int .i64 0, .string ⟨#[]⟩, .int .i64 0, .int .i64 0, .slice d1 0 d1n, .slice d2 1 d2n, .slice d3 2 d3n] 30 (0, 0))).alloc (.cells #[.int .i64 1, .int .i64 0] 3 (0, 0))).alloc (.cells #[.int .i64 0, .int .i64 2, .int .i64 2, .slice (some ⟨w3.heap.size + 1, 0, none⟩) 2 2, .int .i64 4, .string ⟨#[84]⟩, .string ⟨#[105]⟩, .string ⟨#[102]⟩, .string w, .int .i64 0, .int .i64 0, .int .i64 0, .int .i64 1, .slice none 0 0] 35 (0, 0))).alloc (.cells #[.int .i64 1, .int .i64 0] 3 (0, 0))).alloc (.cells #[.int .i64 1, .int .i64 1, .int .i64 2, .slice (some ⟨w3.heap.size + 1 + 1 + 1, 0, none⟩) 2 2, .int .i64 5, .string ⟨#[84]⟩, .string ⟨#[105]⟩, .string ⟨#[102]⟩, .string ⟨#[]⟩, .int .i64 0, .int .i64 0, .int .i64 0, .int .i64 1, .slice none 0 0] 35 (0, 0))).heap[w3.heap.size + 1 + 1]? = some (.cells #[.int .i64 0, .int .i64 2, .int .i64 2, .slice (some ⟨w3.heap.size + 1, 0, none⟩) 2 2, .int .i64 4, .string ⟨#[84]⟩, .string ⟨#[105]⟩, .string ⟨#[102]⟩, .string w, .int .i64 0, .int .i64 0, .int .i64 0, .int .i64 1, .slice none 0 0] 35 (0, 0)) := al_old (al_old (al_at (by simp)))
  have hM : (((((w3.alloc (.cells #[.int .i64 3, .bool false, .int .i64 0, .int .i64 0, .string ⟨#[]⟩, .int .i64 0, .int .i64 0, .slice d1 0 d1n, .slice d2 1 d2n, .slice d3 2 d3n] 30 (0, 0))).alloc (.cells #[.int .i64 1, .int .i64 0] 3 (0, 0))).alloc (.cells #[.int .i64 0, .int .i64 2, .int .i64 2, .slice (some ⟨w3.heap.size + 1, 0, none⟩) 2 2, .int .i64 4, .string ⟨#[84]⟩, .string ⟨#[105]⟩, .string ⟨#[102]⟩, .string w, .int .i64 0, .int .i64 0, .int .i64 0, .int .i64 1, .slice none 0 0] 35 (0, 0))).alloc (.cells #[.int .i64 1, .int .i64 0] 3 (0, 0))).alloc (.cells #[.int .i64 1, .int .i64 1, .int .i64 2, .slice (some ⟨w3.heap.size + 1 + 1 + 1, 0, none⟩) 2 2, .int .i64 5, .string ⟨#[84]⟩, .string ⟨#[105]⟩, .string ⟨#[102]⟩, .string ⟨#[]⟩, .int .i64 0, .int .i64 0, .int .i64 0, .int .i64 1, .slice none 0 0] 35 (0, 0))).heap[w3.heap.size + 1 + 1 + 1]? = some (.cells #[.int .i64 1, .int .i64 0] 3 (0, 0)) := al_old (al_at (by simp))
  have hB : (((((w3.alloc (.cells #[.int .i64 3, .bool false, .int .i64 0, .int .i64 0, .string ⟨#[]⟩, .int .i64 0, .int .i64 0, .slice d1 0 d1n, .slice d2 1 d2n, .slice d3 2 d3n] 30 (0, 0))).alloc (.cells #[.int .i64 1, .int .i64 0] 3 (0, 0))).alloc (.cells #[.int .i64 0, .int .i64 2, .int .i64 2, .slice (some ⟨w3.heap.size + 1, 0, none⟩) 2 2, .int .i64 4, .string ⟨#[84]⟩, .string ⟨#[105]⟩, .string ⟨#[102]⟩, .string w, .int .i64 0, .int .i64 0, .int .i64 0, .int .i64 1, .slice none 0 0] 35 (0, 0))).alloc (.cells #[.int .i64 1, .int .i64 0] 3 (0, 0))).alloc (.cells #[.int .i64 1, .int .i64 1, .int .i64 2, .slice (some ⟨w3.heap.size + 1 + 1 + 1, 0, none⟩) 2 2, .int .i64 5, .string ⟨#[84]⟩, .string ⟨#[105]⟩, .string ⟨#[102]⟩, .string ⟨#[]⟩, .int .i64 0, .int .i64 0, .int .i64 0, .int .i64 1, .slice none 0 0] 35 (0, 0))).heap[w3.heap.size + 1 + 1 + 1 + 1]? = some (.cells #[.int .i64 1, .int .i64 1, .int .i64 2, .slice (some ⟨w3.heap.size + 1 + 1 + 1, 0, none⟩) 2 2, .int .i64 5, .string ⟨#[84]⟩, .string ⟨#[105]⟩, .string ⟨#[102]⟩, .string ⟨#[]⟩, .int .i64 0, .int .i64 0, .int .i64 0, .int .i64 1, .slice none 0 0] 35 (0, 0)) := al_at (by simp)
  have RD0 := RD.no FY0
  have FY := F3.trans FY0
  clear F3 RD FY0 Z3 n3 n3a n3b n3c n3d t0 t1 t2 t3 t4 t5 t6 t7 t8 t9 t10 t11 t12 t13
  revert hD hL hA hM hB RD0 FY
  generalize (((((w3.alloc (.cells #[.int .i64 3, .bool false, .int .i64 0, .int .i64 0, .string ⟨#[]⟩, .int .i64 0, .int .i64 0, .slice d1 0 d1n, .slice d2 1 d2n, .slice d3 2 d3n] 30 (0, 0))).alloc (.cells #[.int .i64 1, .int .i64 0] 3 (0, 0))).alloc (.cells #[.int .i64 0, .int .i64 2, .int .i64 2, .slice (some ⟨w3.heap.size + 1, 0, none⟩) 2 2, .int .i64 4, .string ⟨#[84]⟩, .string ⟨#[105]⟩, .string ⟨#[102]⟩, .string w, .int .i64 0, .int .i64 0, .int .i64 0, .int .i64 1, .slice none 0 0] 35 (0, 0))).alloc (.cells #[.int .i64 1, .int .i64 0] 3 (0, 0))).alloc (.cells #[.int .i64 1, .int .i64 1, .int .i64 2, .slice (some ⟨w3.heap.size + 1 + 1 + 1, 0, none⟩) 2 2, .int .i64 5, .string ⟨#[84]⟩, .string ⟨#[105]⟩, .string ⟨#[102]⟩, .string ⟨#[]⟩, .int .i64 0, .int .i64 0, .int .i64 0, .int .i64 1, .slice none 0 0] 35 (0, 0))) = Y
  intro hD hL hA hM hB RD0 FY
  have hLA : Ow Y (fun k => k = w3.heap.size + 1) 3 eInt (.slice (some ⟨w3.heap.size + 1, 0, none⟩) 2 2) [1, 0] := Ow.row (l := [1, 0]) (c := 2) hL rfl (by decide) (by decide) rfl rfl
  have hLB : Ow Y (fun k => k = w3.heap.size + 1 + 1 + 1) 3 eInt (.slice (some ⟨w3.heap.size + 1 + 1 + 1, 0, none⟩) 2 2) [1, 0] := Ow.row (l := [1, 0]) (c := 2) hM rfl (by decide) (by decide) rfl rfl
  have OA : OpR Y (opP 4 w (0, 0) (0, 1)) (.slice (some ⟨w3.heap.size + 1, 0, none⟩) 2 2) (.slice none 0 0) := ⟨hLA.rd, RdS.nil _ _⟩
  have OB : OpR Y (opQ 5 ⟨#[]⟩ (0, 0) (0, 1) []) (.slice (some ⟨w3.heap.size + 1 + 1 + 1, 0, none⟩) 2 2) (.slice none 0 0) := ⟨hLB.rd, RdS.nil _ _⟩
  clear hL hM hLA hLB 
  refine (apply_gen T2.out (F := (fun x1 x2 x3 => .agg #[.int .i64 3, .bool false, .int .i64 0, .int .i64 0, .string ⟨#[]⟩, .int .i64 0, .int .i64 0, x1, x2, x3])) (fun _ _ _ => rfl) (e := 0) (l := 2) (s := 2) rfl rfl rfl RD0 ⟨(by show 0 * 32 ≤ _; unfold reachBytes; omega), (by show 1 * 48 ≤ _; unfold reachBytes; omega), (by show 2 * 8 ≤ _; unfold reachBytes; omega)⟩ ⟨(by show 0 ≤ _; omega), (fun x hx => by cases hx), (fun x hx => by have h1 := HV.out; have h2 := HW.out; simp only [c3, List.mem_cons, List.not_mem_nil, or_false] at hx; (try rcases hx with rfl | rfl | rfl) <;> (try rcases hx with rfl | rfl) <;> (try subst hx) <;> first | exact small_of HV.out | exact small_of HW.out | exact small_of (show (0 : Nat) ≤ 256 by omega) | exact hx.elim)⟩ OA (opB_of (by show 1 ≤ 256; omega) (by show 1 ≤ 256; omega) (by show 1 ≤ 256; omega) HW.out)).mono ?_
  rintro e w4 ⟨p1, p1n, p2, p2n, p3, p3n, rfl, ow4, fw4⟩
  have F4 := FY.trans fw4
  have D4 := fw4.obj hD id
  have A4 := fw4.obj hA id
  have B4 := fw4.obj hB id
  have OA4 := OA.no fw4
  have OB4 := OB.no fw4
  have RD4 := RD0.no fw4
  have RP := ow4.rd
  clear FY hD hA hB OA OB RD0 ow4 fw4 T2
  have nA := lt_of_block A4
  have nB := lt_of_block B4
  have nD := lt_of_block D4
  obtain ⟨t0, t1, t2, t3, t4, t5, t6, t7, t8, t9, t10, t11, t12, t13⟩ := obj14 B4
  go_wp2_with (fail)
  clear t0 t1 t2 t3 t4 t5 t6 t7 t8 t9 t10 t11 t12 t13
  have G4 := (Frm.refl No w4).al (.cells #[.int .i64 3, .bool false, .int .i64 0, .int .i64 0, .string ⟨#[]⟩, .int .i64 0, .int .i64 0, .slice p1 0 p1n, .slice p2 2 p2n, .slice p3 2 p3n] 30 (0, 0))
  refine (apply_gen T3.out (F := (fun x1 x2 x3 => .agg #[.int .i64 3, .bool false, .int .i64 0, .int .i64 0, .string ⟨#[]⟩, .int .i64 0, .int .i64 0, x1, x2, x3])) (fun _ _ _ => rfl) (e := 0) (l := 2) (s := 2) rfl rfl rfl (RP.no G4) ⟨(by show 0 * 32 ≤ _; unfold reachBytes; omega), (by show 2 * 48 ≤ _; unfold reachBytes; omega), (by show 2 * 8 ≤ _; unfold reachBytes; omega)⟩ ⟨(by show 0 ≤ _; omega), (fun x hx => by cases hx), (fun x hx => by have h1 := HV.out; have h2 := HW.out; simp only [c3, List.mem_cons, List.not_mem_nil, or_false] at hx; (try rcases hx with rfl | rfl | rfl) <;> (try rcases hx with rfl | rfl) <;> (try subst hx) <;> first | exact small_of HV.out | exact small_of HW.out | exact small_of (show (0 : Nat) ≤ 256 by omega) | exact hx.elim)⟩ (OB4.no G4) (opB_of (by show 1 ≤ 256; omega) (by show 1 ≤ 256; omega) (by show 1 ≤ 256; omega) (by show 0 ≤ 256; omega))).mono ?_
  rintro e w5 ⟨q1, q1n, q2, q2n, q3, q3n, rfl, ow5, fw5⟩
  have G4 := G4.trans fw5
  have F5 := F4.trans G4
  have D5 := G4.obj D4 id
  have A5 := G4.obj A4 id
  have B5 := G4.obj B4 id
  have OA5 := OA4.no G4
  have OB5 := OB4.no G4
  have RD5 := RD4.no G4
  have RQ := ow5.rd
  clear F4 D4 A4 B4 OA4 OB4 RD4 ow5 fw5 G4 T3 nA nB nD RP
  have nA := lt_of_block A5
  have nB := lt_of_block B5
  have nD := lt_of_block D5
  obtain ⟨q0, q1, q2, q3, q4, q5, q6, q7, q8, q9⟩ := obj10 D5
  obtain ⟨t0, t1, t2, t3, t4, t5, t6, t7, t8, t9, t10, t11, t12, t13⟩ := obj14 B5
  go_wp2_with (fail)
  clear q0 q1 q2 q3 q4 q5 q6 q7 q8 q9 t0 t1 t2 t3 t4 t5 t6 t7 t8 t9 t10 t11 t12 t13
  have G5 := (Frm.refl No w5).al (.cells #[.int .i64 3, .bool false, .int .i64 0, .int .i64 0, .string ⟨#[]⟩, .int .i64 0, .int .i64 0, .slice q1 0 q1n, .slice q2 2 q2n, .slice q3 2 q3n] 30 (0, 0))
  refine (apply_gen T4.out (F := (fun x1 x2 x3 => .agg #[.int .i64 3, .bool false, .int .i64 0, .int .i64 0, .string ⟨#[]⟩, .int .i64 0, .int .i64 0, x1, x2, x3])) (fun _ _ _ => rfl) (e := 0) (l := 1) (s := 2) rfl rfl rfl (RD5.no G5) ⟨(by show 0 * 32 ≤ _; unfold reachBytes; omega), (by show 1 * 48 ≤ _; unfold reachBytes; omega), (by show 2 * 8 ≤ _; unfold reachBytes; omega)⟩ ⟨(by show 0 ≤ _; omega), (fun x hx => by cases hx), (fun x hx => by have h1 := HV.out; have h2 := HW.out; simp only [c3, List.mem_cons, List.not_mem_nil, or_false] at hx; (try rcases hx with rfl | rfl | rfl) <;> (try rcases hx with rfl | rfl) <;> (try subst hx) <;> first | exact small_of HV.out | exact small_of HW.out | exact small_of (show (0 : Nat) ≤ 256 by omega) | exact hx.elim)⟩ (OB5.no G5) (opB_of (by show 1 ≤ 256; omega) (by show 1 ≤ 256; omega) (by show 1 ≤ 256; omega) (by show 0 ≤ 256; omega))).mono ?_
  rintro e w6 ⟨r1, r1n, r2, r2n, r3, r3n, rfl, ow6, fw6⟩
  have Q5 := heap_alloc_new w5 (.cells #[.int .i64 3, .bool false, .int .i64 0, .int .i64 0, .string ⟨#[]⟩, .int .i64 0, .int .i64 0, .slice q1 0 q1n, .slice q2 2 q2n, .slice q3 2 q3n] 30 (0, 0))
  have Q6 := fw6.obj Q5 id
  have G5 := G5.trans fw6
  have F6 := F5.trans G5
  have A6 := G5.obj A5 id
  have OA6 := OA5.no G5
  have RQ6 := RQ.no G5
  have RR := ow6.rd
  clear F5 D5 A5 B5 OA5 OB5 RD5 ow6 fw6 G5 T4 nA nB nD RQ Q5
  have nA := lt_of_block A6
  have nQ := lt_of_block Q6
  obtain ⟨t0, t1, t2, t3, t4, t5, t6, t7, t8, t9, t10, t11, t12, t13⟩ := obj14 A6
  go_wp2_with (fail)
  clear t0 t1 t2 t3 t4 t5 t6 t7 t8 t9 t10 t11 t12 t13
  have G6 := (Frm.refl No w6).al (.cells #[.int .i64 3, .bool false, .int .i64 0, .int .i64 0, .string ⟨#[]⟩, .int .i64 0, .int .i64 0, .slice r1 0 r1n, .slice r2 1 r2n, .slice r3 2 r3n] 30 (0, 0))
  refine (apply_gen T5.out (F := (fun x1 x2 x3 => .agg #[.int .i64 3, .bool false, .int .i64 0, .int .i64 0, .string ⟨#[]⟩, .int .i64 0, .int .i64 0, x1, x2, x3])) (fun _ _ _ => rfl) (e := 0) (l := 2) (s := 2) rfl rfl rfl (RR.no G6) ⟨(by show 0 * 32 ≤ _; unfold reachBytes; omega), (by show 1 * 48 ≤ _; unfold reachBytes; omega), (by show 2 * 8 ≤ _; unfold reachBytes; omega)⟩ ⟨(by show 0 ≤ _; omega), (fun x hx => by cases hx), (fun x hx => by have h1 := HV.out; have h2 := HW.out; simp only [c3, List.mem_cons, List.not_mem_nil, or_false] at hx; (try rcases hx with rfl | rfl | rfl) <;> (try rcases hx with rfl | rfl) <;> (try subst hx) <;> first | exact small_of HV.out | exact small_of HW.out | exact small_of (show (0 : Nat) ≤ 256 by omega) | exact hx.elim)⟩ (OA6.no G6) (opB_of (by show 1 ≤ 256; omega) (by show 1 ≤ 256; omega) (by show 1 ≤ 256; omega) HW.out)).mono ?_
  rintro e w7 ⟨s1, s1n, s2, s2n, s3, s3n, rfl, ow7, fw7⟩
  have Q7 := (G6.trans fw7).obj Q6 id
  have G6 := G6.trans fw7
  have F7 := F6.trans G6
  have RQ7 := RQ6.no G6
  have RS := ow7.rd
  clear F6 A6 OA6 ow7 fw7 G6 T5 nA nQ RQ6 RR Q6
  have nQ := lt_of_block Q7
  obtain ⟨q0, q1, q2, q3, q4, q5, q6, q7, q8, q9⟩ := obj10 Q7
  go_wp2_with (go_at_call 18; refine (num_ok _ _).mono ?_; rintro e w' ⟨rfl, rfl⟩)
  have G7 := (Frm.refl No w7).al (.cells #[.int .i64 3, .bool false, .int .i64 0, .int .i64 0, .string ⟨#[]⟩, .int .i64 0, .int .i64 0, .slice s1 0 s1n, .slice s2 2 s2n, .slice s3 2 s3n] 30 (0, 0))
  refine (sameCell_ok (RQ7.no G7) (RS.no G7)).mono ?_
  rintro e w8 ⟨rfl, f8⟩
  have G7 := G7.trans f8
  have F8 := F7.trans G7
  have RQ8 := RQ7.no G7
  have Q8 := G7.obj Q7 id
  clear F7 RQ7 RS Q7 f8 G7 nQ
  clear q0 q1 q2 q3 q4 q5 q6 q7 q8 q9
  have nQ := lt_of_block Q8
  obtain ⟨q0, q1, q2, q3, q4, q5, q6, q7, q8, q9⟩ := obj10 Q8
  go_wp2_with (fail)
  have L8 : RdS (w8.alloc (.cells #[.int .i64 2, .int .i64 1] 3 (0, 0))) eInt (.slice (some ⟨w8.heap.size, 0, none⟩) 2 2) [2, 1] := RdS_lits w8 eInt [2, 1] 3 (g := w8.heap.size) (n := 2) rfl rfl (by decide)
  refine (sameInts_ok (RQ8.s.no ((Frm.refl No w8).al _)) L8).mono ?_
  rintro e w9 ⟨rfl, k, hw9⟩
  have G8 : Frm No w8 w9 := by rw [hw9]; exact ((Frm.refl No w8).al _).dr k
  clear hw9
  rw [show decide ((c3 [(0, 1, 1, ⟨#[]⟩, true), (0, 2, 2, w, false)] [2, 1]).seen = [2, 1]) = true from rfl]
  go_wp2_with (fail)
  go_ret
  exact ⟨rfl, F8.trans G8⟩
end Go.Proofs.YtofikfkgiblblaaGreatDoor

/- tattlelaw12.CellTwo answers true, for every input. -/
namespace Go.Proofs.YtofikfkgiblblaaGreatDoor
set_option linter.unusedVariables false
set_option linter.unusedSimpArgs false
open Go.RowKit Go.Lib Go.Tt Go.Shelf
set_option maxHeartbeats 2000000 in
set_option maxRecDepth 100000 in
theorem ltwo_big {w0 : World} (tab : Tab w0) (kind x : Int) {v w : ByteArray} (h : ¬ (v.size ≤ 256 ∧ w.size ≤ 256)) :
    Calls Tryz.prog 8 #[.int .i64 kind, .string v, .string w, .int .i64 x] w0 fun e w' => e = .returned (.bool true) ∧ Frm No w0 w' := by
  have HA := Lib.hid (awake_ok tab)
  clear tab
  by_cases hv : v.size ≤ 256
  · have g1 : ¬ (256 < (v.size : Int)) := by omega
    have g2 : 256 < (w.size : Int) := by omega
    clear h hv
    go_enter Tryz.func8, Tryz.ntmps8
    go_wp2_with (fail)
    refine HA.out.mono ?_
    rintro e w1 ⟨rfl, F1⟩
    clear HA
    go_wp2_with (fail)
    go_ret
    exact ⟨rfl, F1⟩
  · have g1 : 256 < (v.size : Int) := by omega
    clear h hv
    go_enter Tryz.func8, Tryz.ntmps8
    go_wp2_with (fail)
    refine HA.out.mono ?_
    rintro e w1 ⟨rfl, F1⟩
    clear HA
    go_wp2_with (fail)
    go_ret
    exact ⟨rfl, F1⟩
theorem ltwo_ok {w0 : World} (tab : Tab w0) (kind x : Int) (v w : ByteArray) :
    Calls Tryz.prog 8 #[.int .i64 kind, .string v, .string w, .int .i64 x] w0 fun e w' => e = .returned (.bool true) ∧ Frm No w0 w' := by
  by_cases h : v.size ≤ 256 ∧ w.size ≤ 256
  · have hcs : (IntKind.u64.wrap kind).tmod 4 = 0 ∨ (IntKind.u64.wrap kind).tmod 4 = 1 ∨ (IntKind.u64.wrap kind).tmod 4 = 2 ∨ (IntKind.u64.wrap kind).tmod 4 = 3 := by
      have h : 0 ≤ IntKind.u64.wrap kind := by rw [IntKind.wrap_u64]; omega
      rw [Int.tmod_eq_emod_of_nonneg h]; omega
    have hx : bits .and .i64 x 1 = 0 ∨ bits .and .i64 x 1 = 1 := by rw [and_1]; omega
    rcases hcs with hk | hk | hk | hk
    · exact ltwo0 tab kind x hk h.1 h.2
    · exact ltwo1 tab kind x hk h.1 h.2
    · rcases hx with hx | hx
      · exact ltwo2 tab kind x hk h.1 h.2 hx
      · exact ltwo2o tab kind x hk h.1 h.2 hx
    · rcases hx with hx | hx
      · exact ltwo3 tab kind x hk h.1 h.2 hx
      · exact ltwo3o tab kind x hk h.1 h.2 hx
  · exact ltwo_big tab kind x h
end Go.Proofs.YtofikfkgiblblaaGreatDoor

/- CellTwo at what the row hands in. -/
namespace Go.Proofs.YtofikfkgiblblaaGreatDoor
set_option linter.unusedVariables false
set_option linter.unusedSimpArgs false
open Go.RowKit Go.Lib Go.Tt Go.WideShapes
theorem ltwo_row (w : World) (tab : Tab w) (k : Int) (_ : (Lit.int .i64 k).wf = true) (s : ByteArray) (_ : s.size ≤ maxLen) (t : ByteArray) (_ : t.size ≤ maxLen) (x : Int) (_ : (Lit.int .i64 x).wf = true) : Calls Tryz.prog 8 #[.int .i64 k, .string s, .string t, .int .i64 x] w fun e w' => e = .returned (.bool true) ∧ Below w.heap.size w w' :=
  (ltwo_ok tab k x s t).mono fun e w' ⟨he, f⟩ => ⟨he, f.below (fun _ _ h => h) (Nat.le_refl _)⟩
end Go.Proofs.YtofikfkgiblblaaGreatDoor

/- The card of tattlelaw12.CellTwo. -/
namespace Go.Proofs.YtofikfkgiblblaaGreatDoor.cellTwo
set_option linter.unusedVariables false
set_option linter.unusedSimpArgs false
open Go.ChangeShapes Go.WideShapes Go.ChangeAt Go.RowKit Go.Tt
open Go.ChangeMaps (open_string shut_string)
set_option linter.unusedVariables false
set_option maxRecDepth 100000 in
theorem contract (H : Type) (enc : TypeId × Value → H) (W : World) (base : Nat) (args : Array Value) (ds gs : List (DataW H)) (before : List MemPlace)
    (hval0 : ∀ (j : Nat) t v, Tryz.f8.params[j]? = some t → args[j]? = some v → Value.okWide Tryz.prog W .any base t v)
    (hW : DataW.Whole enc Tryz.prog Tryz.f8.params.toList Rows.cellTwoSpec.vars false W args.toList ds gs before)
    (hsz0 : (DataW.weightsEach Tryz.prog (Tryz.f8.params.toList ++ Rows.cellTwoSpec.plain.varTypes Tryz.prog) (ds ++ gs)).all (· ≤ reachBytes) = true)
    (hL : laidMetH Tryz.prog tabs W) :
    Calls Tryz.prog 8 args W fun e W' => ∃ v, e = .returned v ∧ Rows.cellTwoSpec.post enc Tryz.prog Tryz.f8 false true false false W args v W' := by
  have hval : ∀ (j : Nat) t v, Tryz.f8.params[j]? = some t → args[j]? = some v → Value.okWide Tryz.prog W .any base t v := hval0
  have hW' := hW
  obtain ⟨p, q, hA0, hV, rfl, hfz, hnd⟩ := hW
  have hA : DataW.TrodAll enc Tryz.prog W 0 (fun _ => true) true Tryz.f8.params.toList args.toList ds p := hA0
  rw [Tryz.params8] at hA hval
  have hB := hA
  obtain ⟨v0, vs0, d0, ds0, p0, q0, hargs, rfl, rfl, h0, r0⟩ := trodAll_cons hA
  obtain ⟨v1, vs1, d1, ds1, p1, q1, rfl, rfl, rfl, h1, r1⟩ := trodAll_cons r0
  obtain ⟨v2, vs2, d2, ds2, p2, q2, rfl, rfl, rfl, h2, r2⟩ := trodAll_cons r1
  obtain ⟨v3, vs3, d3, ds3, p3, q3, rfl, rfl, rfl, h3, r3⟩ := trodAll_cons r2
  obtain ⟨rfl, rfl, rfl⟩ := trodAll_nil r3
  obtain rfl : args = #[v0, v1, v2, v3] := by cases args; simp_all
  obtain ⟨rfl, rfl⟩ := trodVars_none hV
  obtain ⟨a0, rfl, e0, _, w0⟩ := open_int Tryz.underlying3 (hval 0 3 v0 rfl rfl) h0
  obtain ⟨a1, rfl, e1, _, w1⟩ := open_string Tryz.underlying9 (hval 1 9 v1 rfl rfl) h1
  obtain ⟨a2, rfl, e2, _, w2⟩ := open_string Tryz.underlying9 (hval 2 9 v2 rfl rfl) h2
  obtain ⟨a3, rfl, e3, _, w3⟩ := open_int Tryz.underlying3 (hval 3 3 v3 rfl rfl) h3
  refine (ltwo_row W (table hL) a0 w0 a1 w1 a2 w2 a3 w3).mono fun e W' ⟨he, bel⟩ => ?_
  subst he
  exact ⟨_, rfl, _, _, _, [], _, [], hW', trodAll_mk1 (shut_bool Tryz.underlying4 _), below_trodAll laidOut bel (by kernel_rfl) hB (trodAll_lt hB), rfl, bel.frame _, fun h => by cases h⟩
theorem laid_met (os : Os) : laidMet Tryz.prog Rows.cellTwoRow.laid ((laidWorld os).forCall (fun _ _ => 0) ⟨#[], #[.int .i64 0, .string ByteArray.empty, .string ByteArray.empty, .int .i64 0], []⟩).memory :=
  laidMet_of_run' 8 (by kernel_rfl) (by kernel_rfl)
noncomputable def rdW (os : Os) {H : Type} (enc : TypeId × Value → H) : Option (List (DataW H) × List (DataW H) × List MemPlace) := DataW.whole enc Tryz.prog ((laidWorld os).forCall (fun _ _ => 0) ⟨#[], #[.int .i64 0, .string ByteArray.empty, .string ByteArray.empty, .int .i64 0], []⟩).memory Tryz.f8.params.toList Rows.cellTwoSpec.vars false (#[.int .i64 0, .string ByteArray.empty, .string ByteArray.empty, .int .i64 0] : Array Value).toList 8
theorem rdW_some (os : Os) {H : Type} (enc : TypeId × Value → H) : (rdW os enc).isSome = true := by kernel_rfl
theorem reads (os : Os) {H : Type} (enc : TypeId × Value → H) : rdW os enc = some (((rdW os enc).get (rdW_some os enc)).1, ((rdW os enc).get (rdW_some os enc)).2.1, ((rdW os enc).get (rdW_some os enc)).2.2) := get_parts (rdW os enc) (rdW_some os enc)
set_option maxRecDepth 100000 in
theorem lifted (os : Os) (started : os.Started) (H : Type) (enc : TypeId × Value → H) (G : Stop.Interp) :
    ReturnsInHanded {} Tryz.checked os 8 .any ((OpenSpec.ofChange Rows.cellTwoSpec).preRow enc Tryz.prog Tryz.f8 Rows.cellTwoRow.domain false Rows.cellTwoRow.laid) (((OpenSpec.ofChange Rows.cellTwoSpec).at G).post enc Tryz.prog Tryz.f8 false true false false) := by
  have hx := reads os enc
  refine returnsInHanded_of_row (C := Tryz.checked) (s := OpenSpec.ofChange Rows.cellTwoSpec) own started (by kernel_rfl) Tryz.func8
    (witness_row_at (enc := enc) (C := Tryz.checked) false (laidWorld os) #[.int .i64 0, .string ByteArray.empty, .string ByteArray.empty, .int .i64 0] rfl (by kernel_rfl) (by kernel_rfl) (by kernel_rfl) (OpenSpec.preRow_of_cond 8 hx (by kernel_rfl) (fun k hk => by cases hk) (by kernel_rfl) (laid_met os))) ?_
  intro W base args ds gs before hval hW _ hcond hsz hL _ _
  exact contract H enc W base args ds gs before hval hW hsz hL
theorem said : Rows.CellTwoSaid :=
  OpenClaim.holds_of_cond 8 Tryz.f8 rfl rfl rfl rfl rfl rfl rfl ⟨rfl, rfl, rfl, rfl, rfl⟩ rfl rfl rfl rfl rfl (by kernel_rfl) Tryz.func8 (by kernel_rfl)
    (of_decide_eq_true (by kernel_rfl)) (by unfold Func.isWrapper; first | (rw [if_pos (by decide +kernel)]; kernel_rfl) | (rw [if_neg (by decide +kernel)]; exact ⟨rfl, rfl⟩))
    (fun os started H enc _ G => by rw [OpenClaim.pre_eq_preRow]; exact lifted os started H enc G)
theorem plain (f : FuncId) (fn : Func) (hf : Tryz.pinned.checked.prog.funcNamed "tattle/tattlelaw12.CellTwo" = some f) (hfn : Tryz.pinned.checked.prog.funcs[f]? = some fn) :
    false = Tryz.pinned.checked.prog.looks [] ∧ ∀ (j : Nat) t, fn.params[j]? = some t → Tryz.pinned.checked.prog.wantsStandIn t = false := by
  obtain rfl : f = 8 := Option.some.inj ((show Tryz.prog.funcNamed "tattle/tattlelaw12.CellTwo" = some 8 by kernel_rfl).symm.trans hf) |>.symm
  obtain rfl : fn = Tryz.f8 := (Option.some.inj (Tryz.func8.symm.trans hfn)).symm
  refine ⟨by kernel_rfl, fun j t ht => ?_⟩
  rw [Tryz.params8] at ht
  have ht := Array.mem_of_getElem? ht
  simp only [List.mem_toArray, List.mem_cons, List.not_mem_nil, or_false] at ht
  rcases ht with rfl | rfl | rfl | rfl
  · exact (show Tryz.prog.wantsStandIn 3 = false by kernel_rfl)
  · exact (show Tryz.prog.wantsStandIn 9 = false by kernel_rfl)
  · exact (show Tryz.prog.wantsStandIn 9 = false by kernel_rfl)
  · exact (show Tryz.prog.wantsStandIn 3 = false by kernel_rfl)
theorem card : Rows.CellTwoCardSaid :=
  Claim7.holds_tied_plain_at .later [] _ _ _ _ said (fun _ h => by cases h) (by kernel_rfl) (fun _ h => by cases h) cellTwo_row_tie rfl ⟨rfl, rfl⟩ (by kernel_rfl) rfl plain (by kernel_rfl)
end Go.Proofs.YtofikfkgiblblaaGreatDoor.cellTwo
namespace Go.Proofs.YtofikfkgiblblaaGreatDoor
set_option linter.unusedVariables false
set_option linter.unusedSimpArgs false
/-- The card, under a short name, for the claim. -/
theorem cellTwo_holds : Rows.CellTwoCardSaid := cellTwo.card
#print axioms cellTwo_holds
end Go.Proofs.YtofikfkgiblblaaGreatDoor

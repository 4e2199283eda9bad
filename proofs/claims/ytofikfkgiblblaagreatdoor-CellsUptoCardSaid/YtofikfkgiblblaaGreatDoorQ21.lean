/- Merged: SetC Awake9. -/
import Derived.Test.YtofikfkgiblblaaGreatDoorQ19
import Derived.Test.YtofikfkgiblblaaGreatDoorQ20
/- Sets that a law makes itself: the contracts, told of a list of entries. -/
namespace Go.Proofs.YtofikfkgiblblaaGreatDoor
set_option linter.unusedVariables false
set_option linter.unusedSimpArgs false
set_option linter.unusedVariables false
set_option linter.unusedSimpArgs false
open Go.RowKit Go.Lib Go.Tt
/-- A set with these entries and nothing else. -/
def setC (l : List En) : CellV := ⟨2, false, (0, 0), ⟨#[]⟩, (0, 0), l, [], []⟩
theorem setC_b {l : List En} (h : l.length ≤ 1000000) : CellB (setC l) := ⟨by show l.length * 32 ≤ reachBytes; unfold reachBytes; omega, by show 0 * 48 ≤ reachBytes; omega, by show 0 * 8 ≤ reachBytes; omega⟩
theorem setC_nil (w : World) : CellR w (setC []) (.slice none 0 0) (.slice none 0 0) (.slice none 0 0) := ⟨RdS.nil _ _, RdS.nil _ _, RdS.nil _ _⟩
theorem putEn_len (l : List En) (d : Dt) (v : ByteArray) : (putEn l d v).length = l.length + 1 := by
  unfold putEn putAt
  have := List.findIdx_le_length (xs := l) (p := fun e => dotLess d (e.1, e.2.1))
  rw [List.length_append, List.length_cons, List.length_take, List.length_drop]; omega
theorem set_sh {w : World} {F : Nat → Prop} {l : List En} {ve vl vs : Value} {n' : Nat} (h : CellO w F (setC l) ve vl vs) (hn : n' = l.length) : ∃ a' m' b' d' f' g', ve = .slice a' n' m' ∧ vl = .slice b' 0 d' ∧ vs = .slice f' 0 g' := by
  obtain ⟨a, c, rfl⟩ := h.e.sh
  obtain ⟨b, d, rfl⟩ := h.l.sh
  obtain ⟨f, g, rfl⟩ := h.s.sh
  subst hn
  exact ⟨a, c, b, d, f, g, rfl, rfl, rfl⟩
theorem set_put {w : World} {l : List En} {a b f : Option Addr} {n m d g : Nat} (h : CellR w (setC l) (.slice a n m) (.slice b 0 d) (.slice f 0 g)) (hb : l.length ≤ 1000000) (dt : Dt) (hd : dotMay dt = true) (v : ByteArray) (hv : v.size ≤ 256) (hne : ∀ e ∈ l, (e.1, e.2.1) ≠ dt) (n' : Nat) (hn : n' = l.length + 1) :
    Calls Tryz.prog 68 #[.agg #[.int .i64 2, .bool false, .int .i64 0, .int .i64 0, .string ⟨#[]⟩, .int .i64 0, .int .i64 0, .slice a n m, .slice b 0 d, .slice f 0 g], .agg #[.int .i64 dt.1, .int .i64 dt.2], .string v] w fun e w' => ∃ a' m' b' d' f' g', e = .returned (.tuple #[.agg #[.int .i64 2, .bool false, .int .i64 0, .int .i64 0, .string ⟨#[]⟩, .int .i64 0, .int .i64 0, .slice a' n' m', .slice b' 0 d', .slice f' 0 g'], .int .i64 0]) ∧ CellO w' (Nw No w w') (setC (putEn l dt v)) (.slice a' n' m') (.slice b' 0 d') (.slice f' 0 g') ∧ Frm No w w' := by
  refine (put_ok h (setC_b hb) rfl dt hd v hv hne (by show (l.length + 1) * 32 ≤ _; omega)).mono ?_
  rintro e w' ⟨ve, vl, vs, rfl, o, fr⟩
  have o' : CellO w' (Nw No w w') (setC (putEn l dt v)) ve vl vs := o
  obtain ⟨a', m', b', d', f', g', rfl, rfl, rfl⟩ := set_sh (n' := n') o' (by rw [putEn_len]; exact hn)
  exact ⟨a', m', b', d', f', g', rfl, o', fr⟩
theorem set_drop {w : World} {l : List En} {a b f : Option Addr} {n m d g : Nat} (h : CellR w (setC l) (.slice a n m) (.slice b 0 d) (.slice f 0 g)) (hb : l.length ≤ 1000000) {ad : Option Addr} {nd cd : Nat} {ds : List Dt} (hd : RdS w eDt (.slice ad nd cd) ds) (n' : Nat) (hn : n' = (dropped l ds).length) :
    Calls Tryz.prog 69 #[.agg #[.int .i64 2, .bool false, .int .i64 0, .int .i64 0, .string ⟨#[]⟩, .int .i64 0, .int .i64 0, .slice a n m, .slice b 0 d, .slice f 0 g], .slice ad nd cd] w fun e w' => ∃ a' m' b' d' f' g', e = .returned (.tuple #[.agg #[.int .i64 2, .bool false, .int .i64 0, .int .i64 0, .string ⟨#[]⟩, .int .i64 0, .int .i64 0, .slice a' n' m', .slice b' 0 d', .slice f' 0 g'], .int .i64 0]) ∧ CellO w' (Nw No w w') (setC (dropped l ds)) (.slice a' n' m') (.slice b' 0 d') (.slice f' 0 g') ∧ Frm No w w' := by
  refine (drop_ok h (setC_b hb) rfl hd).mono ?_
  rintro e w' ⟨ve, vl, vs, rfl, o, fr⟩
  have o' : CellO w' (Nw No w w') (setC (dropped l ds)) ve vl vs := o
  obtain ⟨a', m', b', d', f', g', rfl, rfl, rfl⟩ := set_sh (n' := n') o' hn
  exact ⟨a', m', b', d', f', g', rfl, o', fr⟩
theorem set_values {w : World} {l : List En} {a b f : Option Addr} {n m d g : Nat} (h : CellR w (setC l) (.slice a n m) (.slice b 0 d) (.slice f 0 g)) (hb : l.length ≤ 1000000) (n' : Nat) (hn : n' = (valsOf l).length) :
    Calls Tryz.prog 38 #[.agg #[.int .i64 2, .bool false, .int .i64 0, .int .i64 0, .string ⟨#[]⟩, .int .i64 0, .int .i64 0, .slice a n m, .slice b 0 d, .slice f 0 g]] w fun e w' => ∃ a' m', e = .returned (.tuple #[.slice a' n' m', .int .i64 0]) ∧ Ow w' (Nw No w w') 9 eStr (.slice a' n' m') (valsOf l) ∧ Frm No w w' := by
  refine (values_ok h (setC_b hb) rfl).mono ?_
  rintro e w' ⟨a', n2, m', rfl, o, fr⟩
  have o' : Ow w' (Nw No w w') 9 eStr (.slice a' n2 m') (valsOf l) := o
  obtain rfl : n2 = n' := o'.cap.1.trans hn.symm
  exact ⟨a', m', rfl, o', fr⟩
theorem set_put_bad {w : World} {l : List En} {a b f : Option Addr} {n m d g : Nat} (h : CellR w (setC l) (.slice a n m) (.slice b 0 d) (.slice f 0 g)) (dt : Dt) (v : ByteArray) (hvm : v.size ≤ maxLen) (hbad : dotMay dt = false ∨ 256 < v.size ∨ ∃ e ∈ l, (e.1, e.2.1) = dt) :
    Calls Tryz.prog 68 #[.agg #[.int .i64 2, .bool false, .int .i64 0, .int .i64 0, .string ⟨#[]⟩, .int .i64 0, .int .i64 0, .slice a n m, .slice b 0 d, .slice f 0 g], .agg #[.int .i64 dt.1, .int .i64 dt.2], .string v] w fun e w' => e = .returned (.tuple #[.agg #[.int .i64 0, .bool false, .int .i64 0, .int .i64 0, .string ⟨#[]⟩, .int .i64 0, .int .i64 0, .slice none 0 0, .slice none 0 0, .slice none 0 0], .int .i64 900]) ∧ Frm No w w' :=
  put_bad h dt v hvm (.inr hbad)
/-- The empty cell's values. -/
theorem zero_values (w : World) : Calls Tryz.prog 38 #[.agg #[.int .i64 0, .bool false, .int .i64 0, .int .i64 0, .string ⟨#[]⟩, .int .i64 0, .int .i64 0, .slice none 0 0, .slice none 0 0, .slice none 0 0]] w fun e w' => e = .returned (.tuple #[.slice none 0 0, .int .i64 900]) ∧ Frm No w w' :=
  values_bad (c := ⟨0, false, (0, 0), ⟨#[]⟩, (0, 0), [], [], []⟩) ⟨RdS.nil _ _, RdS.nil _ _, RdS.nil _ _⟩ (by show (0 : Int) ≠ 2; omega)
set_option maxRecDepth 100000 in
theorem num_ok (x : Int) (w : World) : Calls Tryz.prog 18 #[.int .i64 x] w fun e w' => e = .returned (.int .i64 x) ∧ w = w' := by
  go_enter Tryz.func18, Tryz.ntmps18
  go_wp2
  go_ret
  exact ⟨rfl, rfl⟩
end Go.Proofs.YtofikfkgiblblaaGreatDoor

/- Sets: what every program answers that is one. -/
namespace Go.Proofs.YtofikfkgiblblaaGreatDoor
set_option linter.unusedVariables false
set_option linter.unusedSimpArgs false
open Go.RowKit Go.Lib Go.Tt
def l1 : List En := [(1, 2, ⟨#[98]⟩)]
def l2 : List En := [(0, 7, ⟨#[97]⟩), (1, 2, ⟨#[98]⟩)]
def l3 : List En := [(0, 7, ⟨#[97]⟩), (1, 2, ⟨#[98]⟩), (1, 3, ⟨#[98]⟩)]
def l4 : List En := [(0, 7, ⟨#[97]⟩), (1, 3, ⟨#[98]⟩)]
theorem put_l1 : putEn [] (1, 2) ⟨#[98]⟩ = l1 := rfl
theorem put_l2 : putEn l1 (0, 7) ⟨#[97]⟩ = l2 := rfl
theorem put_l3 : putEn l2 (1, 3) ⟨#[98]⟩ = l3 := rfl
theorem drop_l4 : dropped l3 [(1, 2)] = l4 := rfl
theorem dots_l3 : dotsOf l3 ⟨#[98]⟩ = [(1, 2), (1, 3)] := rfl
theorem vals_l3 : valsOf l3 = [⟨#[97]⟩, ⟨#[98]⟩] := by
  refine valsOf_eq ?_ fun x => ?_
  · refine List.pairwise_cons.2 ⟨fun y hy => ?_, List.pairwise_singleton _ _⟩
    obtain rfl := List.mem_singleton.1 hy
    show ([97] : List UInt8) < [98]
    decide
  · simp [l3, eq_comm]
end Go.Proofs.YtofikfkgiblblaaGreatDoor

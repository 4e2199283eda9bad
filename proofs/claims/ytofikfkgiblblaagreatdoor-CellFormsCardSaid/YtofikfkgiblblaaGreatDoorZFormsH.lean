/- Merged: FormsL FormsH. -/
import Derived.Test.YtofikfkgiblblaaGreatDoorQ16
import Derived.Test.YtofikfkgiblblaaGreatDoorQ40
import Derived.Test.YtofikfkgiblblaaGreatDoorQ42
/- Layer 12, the plain law of CellForms: each part of a cell that may not be. No program in sight. -/
namespace Go.Proofs.YtofikfkgiblblaaGreatDoor
set_option linter.unusedVariables false
set_option linter.unusedSimpArgs false
set_option linter.unusedVariables false
set_option linter.unusedSimpArgs false
open Go.RowKit Go.Lib Go.Tt Go.Shelf
/-- The cell that may be. -/
def fG : CellV := ⟨3, false, (0, 0), ⟨#[]⟩, (0, 0), [], [(0, 2, 3, ⟨#[97]⟩, false), (0, 3, 2, ⟨#[]⟩, true)], [5, 5]⟩
theorem fG_may : cellMay fG 2 = true := by rfl
/-- The cells that may not be (but the one of a value that is too long). -/
def fB (i : Nat) (d : Nat) : CellV := match i with
  | 0 => { fG with kind := 3 + d }
  | 1 => { fG with kind := -(d : Int) }
  | 2 => { fG with seen := [5] }
  | 3 => { fG with seen := [-(d : Int), 5] }
  | 4 => { fG with set := true }
  | 5 => { fG with value := ⟨#[120]⟩ }
  | 6 => { fG with num := ((d : Int), 0) }
  | 7 => { fG with ents := [(0, 1, ⟨#[]⟩)] }
  | 8 => { fG with elems := [(0, 5 + d, 3, ⟨#[97]⟩, false), (0, 3, 2, ⟨#[]⟩, true)] }
  | 9 => { fG with elems := [(0, 2, 3, ⟨#[97]⟩, false), (0, 2, 2, ⟨#[]⟩, true)] }
  | 10 => { fG with elems := [(0, 2, 1 - (d : Int), ⟨#[97]⟩, false), (0, 3, 2, ⟨#[]⟩, true)] }
  | 11 => { fG with elems := [(0, 2, 3, ⟨#[97]⟩, false), (0, 3, 2, ⟨#[120]⟩, true)] }
  | 13 => ⟨2, false, (0, 0), ⟨#[]⟩, (0, 0), [(0, 2, ⟨#[]⟩), (0, 1, ⟨#[]⟩)], [], [5, 5]⟩
  | 14 => ⟨1, false, (0, 0), ⟨#[]⟩, (0, 4503599627370496 + d), [], [], [5, 5]⟩
  | 15 => ⟨0, false, (d, 0), ⟨#[]⟩, (0, 0), [], [], [5, 5]⟩
  | 16 => ⟨0, true, (1, 1 + d), ⟨#[]⟩, (0, 0), [], [], [5, 5]⟩
  | _ => { fG with st := (0, d) }
theorem fB_may : ∀ i : Fin 18, ∀ d : Fin 64, i.1 ≠ 12 → cellMay (fB i (d + 1)) 2 = false := by decide +kernel
/-- The cell of a value that is too long. -/
def fL (s : ByteArray) : CellV := { fG with elems := [(0, 2, 3, s, false), (0, 3, 2, ⟨#[]⟩, true)] }
theorem fL_may {s : ByteArray} (h : 256 < s.size) : cellMay (fL s) 2 = false := by
  have h1 : elsMay (fL s) = false := decide_eq_false fun h2 => by
    have h3 := (h2 0 (by show 0 < 2; omega)).2.2.2.1
    have h4 : s.size ≤ 256 := h3
    omega
  show (vecMay [5, 5] 2 && (bareC (fL s) && elsMay (fL s))) = false
  rw [h1, Bool.and_false, Bool.and_false]
/-- What Apply gives of a cell that may not be. -/
theorem apply_bad {c : CellV} {o : OpV} {n : Int} (h : cellMay c n = false) : applyF c o n = (zeroC, 1200) := by
  unfold applyF
  rw [h]; rfl
end Go.Proofs.YtofikfkgiblblaaGreatDoor

/- tattlelaw12.CellForms, what all its ways share. -/
namespace Go.Proofs.YtofikfkgiblblaaGreatDoor
set_option linter.unusedVariables false
set_option linter.unusedSimpArgs false
open Go.RowKit Go.Lib Go.Tt Go.Shelf
theorem fG_z : CellZ fG := ⟨(by decide), (fun x hx => by cases hx), (fun x hx => by simp only [fG, List.mem_cons, List.not_mem_nil, or_false] at hx; rcases hx with rfl | rfl <;> decide)⟩
theorem may_G {w : World} {al ax : Option Addr} (h : CellR w fG (.slice none 0 0) (.slice al 2 2) (.slice ax 2 2)) :
    Calls Tryz.prog 20 #[.agg #[.int .i64 3, .bool false, .int .i64 0, .int .i64 0, .string ⟨#[]⟩, .int .i64 0, .int .i64 0, .slice none 0 0, .slice al 2 2, .slice ax 2 2], .int .i64 2] w fun e w' => e = .returned (.bool true) ∧ Frm No w w' := by
  have h := cellMay_ok h fG_z 2
  rw [fG_may] at h
  exact h
/-- cell.Apply at a cell that may not be. -/
theorem apply_no {c : CellV} {o : OpV} {F : Value → Value → Value → Value} (hF : ∀ x y z, cval c x y z = F x y z) (hm : cellMay c 2 = false) {w : World} {ve vl vs vd vo : Value} (h : CellR w c ve vl vs) (hb : CellB c) (hz : CellZ c) (hO : OpR w o vd vo) (hob : OpB o) :
    Calls Tryz.prog 11 #[F ve vl vs, opval o vd vo, .int .i64 2] w fun e w' => ∃ a1 c1 a2 c2 a3 c3, e = .returned (.tuple #[.agg #[.int .i64 0, .bool false, .int .i64 0, .int .i64 0, .string ⟨#[]⟩, .int .i64 0, .int .i64 0, .slice a1 0 c1, .slice a2 0 c2, .slice a3 0 c3], .int .i64 1200]) ∧ CellR w' zeroC (.slice a1 0 c1) (.slice a2 0 c2) (.slice a3 0 c3) ∧ Frm No w w' := by
  have h := apply_ok h hb hz hO hob 2
  rw [apply_bad hm, hF] at h
  refine h.mono ?_
  rintro e w' ⟨ve, vl, vs, rfl, o, f⟩
  obtain ⟨a1, c1, rfl⟩ := o.e.sh
  obtain ⟨a2, c2, rfl⟩ := o.l.sh
  obtain ⟨a3, c3, rfl⟩ := o.s.sh
  exact ⟨a1, c1, a2, c2, a3, c3, rfl, o.rd, f⟩
theorem may_no {c : CellV} {F : Value → Value → Value → Value} (hF : ∀ x y z, cval c x y z = F x y z) (hm : cellMay c 2 = false) {w : World} {ve vl vs : Value} (h : CellR w c ve vl vs) (hz : CellZ c) :
    Calls Tryz.prog 20 #[F ve vl vs, .int .i64 2] w fun e w' => e = .returned (.bool false) ∧ Frm No w w' := by
  have h := cellMay_ok h hz 2
  rw [hm, hF] at h
  exact h
end Go.Proofs.YtofikfkgiblblaaGreatDoor

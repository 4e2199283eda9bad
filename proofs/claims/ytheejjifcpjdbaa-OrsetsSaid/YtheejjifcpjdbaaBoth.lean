/- Sets: the program's answer and the document's are one. -/
import Derived.Test.YtheejjifcpjdbaaRefVals
namespace Go.Proofs.Ytheejjifcpjdbaa
set_option linter.unusedVariables false
set_option linter.unusedSimpArgs false
open Go.RowKit Go.Lib Go.Tt
def zeroC : CellV := ⟨0, false, (0, 0), ⟨#[]⟩, (0, 0), [], [], []⟩
theorem zeroC_o (W : World) (F : Nat → Prop) : CellO W F zeroC (.slice none 0 0) (.slice none 0 0) (.slice none 0 0) := ⟨Ow.nil _ _ _ _ _, Ow.nil _ _ _ _ _, Ow.nil _ _ _ _ _⟩
/-- A call answers with a cell of its own and a number. -/
def CP (C : CellV) (E : Int) (W : World) (e : Ending) (W' : World) : Prop :=
  ∃ ve vl vs, e = .returned (.tuple #[cval C ve vl vs, .int .i64 E]) ∧ CellO W' (Nw No W W') C ve vl vs ∧ Frm No W W'
def VP (L : List ByteArray) (E : Int) (W : World) (e : Ending) (W' : World) : Prop :=
  ∃ a n c, e = .returned (.tuple #[.slice a n c, .int .i64 E]) ∧ Ow W' (Nw No W W') 9 eStr (.slice a n c) L ∧ Frm No W W'
def DP (L : List Dt) (E : Int) (W : World) (e : Ending) (W' : World) : Prop :=
  ∃ a n c, e = .returned (.tuple #[.slice a n c, .int .i64 E]) ∧ Ow W' (Nw No W W') 61 eDt (.slice a n c) L ∧ Frm No W W'
theorem cp_zero {W : World} {e : Ending} {W' : World} (h : e = .returned (.tuple #[zval, .int .i64 900]) ∧ Frm No W W') : CP zeroC 900 W e W' := ⟨_, _, _, h.1, zeroC_o _ _, h.2⟩
theorem room_of {c : CellV} (hb : CellB c) : (c.ents.length + 1) * 32 ≤ 140737488355328 := by have h1 := hb.e; unfold reachBytes at h1; omega
theorem put_both {c : CellV} {d : Dt} {v : ByteArray} (hvm : v.size ≤ maxLen) (hb : CellB c) : ∃ C E, (∀ W ve vl vs, CellR W c ve vl vs → Calls Try.prog 41 #[cval c ve vl vs, .agg #[.int .i64 d.1, .int .i64 d.2], .string v] W (CP C E W)) ∧
    (∀ W ve vl vs, CellR W c ve vl vs → Calls Try.prog 42 #[cval c ve vl vs, .agg #[.int .i64 d.1, .int .i64 d.2], .string v] W (CP C E W)) := by
  by_cases hbad : c.kind ≠ 2 ∨ dotMay d = false ∨ 256 < v.size
  · exact ⟨zeroC, 900, fun W ve vl vs h => (put_bad h d v hvm (by rcases hbad with h | h | h; exact .inl h; exact .inr (.inl h); exact .inr (.inr (.inl h)))).mono fun _ _ h => cp_zero h,
      fun W ve vl vs h => (refPut_bad1 h d v hvm hbad).mono fun _ _ h => cp_zero h⟩
  · have hk : c.kind = 2 := Classical.byContradiction fun h => hbad (.inl h)
    have hd : dotMay d = true := by cases h : dotMay d with | true => rfl | false => exact absurd (.inr (.inl h)) hbad
    have hv : v.size ≤ 256 := by
      rcases Nat.lt_or_ge 256 v.size with h | h
      · exact absurd (.inr (.inr h)) hbad
      · exact h
    by_cases hex : ∃ e ∈ c.ents, (e.1, e.2.1) = d
    · exact ⟨zeroC, 900, fun W ve vl vs h => (put_bad h d v hvm (.inr (.inr (.inr hex)))).mono fun _ _ h => cp_zero h,
        fun W ve vl vs h => (refPut_bad2 h hb hk d hd v hv hex).mono fun _ _ h => cp_zero h⟩
    · have hne : ∀ e ∈ c.ents, (e.1, e.2.1) ≠ d := fun e he h => hex ⟨e, he, h⟩
      exact ⟨_, 0, fun W ve vl vs h => put_ok h hb hk d hd v hv hne (room_of hb), fun W ve vl vs h => refPut_ok h hb hk d hd v hv hne (room_of hb)⟩
theorem drop_both {c : CellV} {ds : List Dt} (hb : CellB c) : ∃ C E, (∀ W ve vl vs a n m, CellR W c ve vl vs → RdS W eDt (.slice a n m) ds → Calls Try.prog 43 #[cval c ve vl vs, .slice a n m] W (CP C E W)) ∧
    (∀ W ve vl vs a n m, CellR W c ve vl vs → RdS W eDt (.slice a n m) ds → Calls Try.prog 44 #[cval c ve vl vs, .slice a n m] W (CP C E W)) := by
  by_cases hk : c.kind = 2
  · exact ⟨_, 0, fun W ve vl vs a n m h hd => drop_ok h hb hk hd, fun W ve vl vs a n m h hd => refDrop_ok h hb hk hd⟩
  · exact ⟨zeroC, 900, fun W ve vl vs a n m h hd => (drop_bad h hk a n m).mono fun _ _ h => cp_zero h, fun W ve vl vs a n m h hd => (refDrop_bad h hk a n m).mono fun _ _ h => cp_zero h⟩
theorem vals_both {c : CellV} (hb : CellB c) : ∃ L E, (∀ W ve vl vs, CellR W c ve vl vs → Calls Try.prog 45 #[cval c ve vl vs] W (VP L E W)) ∧
    (∀ W ve vl vs, CellR W c ve vl vs → Calls Try.prog 46 #[cval c ve vl vs] W (VP L E W)) := by
  by_cases hk : c.kind = 2
  · exact ⟨_, 0, fun W ve vl vs h => values_ok h hb hk, fun W ve vl vs h => refValues_ok h hb hk⟩
  · exact ⟨[], 900, fun W ve vl vs h => (values_bad h hk).mono fun _ _ h => ⟨_, _, _, h.1, Ow.nil _ _ _ _ _, h.2⟩, fun W ve vl vs h => (refValues_bad h hk).mono fun _ _ h => ⟨_, _, _, h.1, Ow.nil _ _ _ _ _, h.2⟩⟩
theorem dots_both {c : CellV} (hb : CellB c) (v : ByteArray) : ∃ L E, (∀ W ve vl vs, CellR W c ve vl vs → Calls Try.prog 47 #[cval c ve vl vs, .string v] W (DP L E W)) ∧
    (∀ W ve vl vs, CellR W c ve vl vs → Calls Try.prog 48 #[cval c ve vl vs, .string v] W (DP L E W)) := by
  by_cases hk : c.kind = 2
  · exact ⟨_, 0, fun W ve vl vs h => dots_ok h hb hk v, fun W ve vl vs h => refDotsOf_ok h hb hk v⟩
  · exact ⟨[], 900, fun W ve vl vs h => (dots_bad h hk v).mono fun _ _ h => ⟨_, _, _, h.1, Ow.nil _ _ _ _ _, h.2⟩, fun W ve vl vs h => (refDots_bad h hk v).mono fun _ _ h => ⟨_, _, _, h.1, Ow.nil _ _ _ _ _, h.2⟩⟩
end Go.Proofs.Ytheejjifcpjdbaa

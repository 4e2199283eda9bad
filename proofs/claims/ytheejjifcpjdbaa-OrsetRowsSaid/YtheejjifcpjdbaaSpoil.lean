/- What is one's own, written over: nothing else turns. -/
import Derived.Test.YtheejjifcpjdbaaLend
namespace Go.Tt
set_option linter.unusedVariables false
set_option linter.unusedSimpArgs false
open Go.RowKit Go.Lib
/-- A cell of an owned row, stored. -/
theorem own_set {w : World} {B e k n g c : Nat} {xs : List Value} (h : w.ownsRow B e k (.slice (some ⟨g, 0, none⟩) n c) n xs) (m : Nat) (u : Value) : (w.setCell ⟨g, m, none⟩ u).ownsRow B e k (.slice (some ⟨g, 0, none⟩) n c) n (xs.set m u) := by
  obtain ⟨h1, h2⟩ := h
  refine ⟨by simpa using h1, ?_⟩
  rcases h2 with ⟨h2, _⟩ | ⟨g', cap, cur, h2, hB, hg, hn, hc, hs, ht⟩
  · simp at h2
  · simp at h2
    obtain ⟨rfl, rfl⟩ := h2
    refine .inr ⟨g, c, cur.setIfInBounds m u, rfl, hB, obj_setCell hg u, hn, hc, by simpa using hs, ?_⟩
    rw [← ht]
    simp [List.take_set]
theorem flat_set {α : Type} (E : Enc α) {l : List α} {i j : Nat} (hi : i < l.length) (hj : j < E.k) (u : Value) (x : α) (hx : (E.f l[i]).set j u = E.f x) : (E.flat l).set (i * E.k + j) u = E.flat (l.set i x) := by
  induction l generalizing i with
  | nil => simp at hi
  | cons y l ih =>
    cases i with
    | zero =>
      rw [Nat.zero_mul, Nat.zero_add, List.set_cons_zero, E.flat_cons, E.flat_cons, List.set_append_left _ _ (by rw [E.len]; exact hj)]
      rw [← hx]; rfl
    | succ i =>
      have e : (i + 1) * E.k + j = (E.f y).length + (i * E.k + j) := by rw [E.len, Nat.add_mul, Nat.one_mul]; omega
      rw [List.set_cons_succ, E.flat_cons, E.flat_cons, e, List.set_append_right _ _ (Nat.le_add_right _ _), Nat.add_sub_cancel_left]
      rw [ih (by simpa using hi) hx]
/-- An element of the call's own, one cell of it stored. -/
theorem Ow.set {α : Type} {w : World} {F : Nat → Prop} {e : TypeId} {E : Enc α} {b off n c : Nat} {l : List α} (h : Ow w F e E (.slice (some ⟨b, off, none⟩) n c) l) {i j : Nat} (hi : i < l.length) (hj : j < E.k) (u : Value) (x : α) (hx : (E.f l[i]).set j u = E.f x) :
    off = 0 ∧ F b ∧ Ow (w.setCell ⟨b, off + (i * E.k + j), none⟩ u) F e E (.slice (some ⟨b, off, none⟩) n c) (l.set i x) := by
  rcases h with ⟨a, h1, rfl⟩ | ⟨h, hF⟩
  · simp at hi
  · obtain ⟨a', c', h1⟩ := own_sh h
    simp at h1
    obtain ⟨ha, rfl, rfl⟩ := h1
    rcases own_cases h with ⟨h0, _⟩ | ⟨g, hg, _, _⟩
    · simp at h0
    · simp at hg
      obtain ⟨rfl, rfl⟩ := hg
      refine ⟨rfl, hF b rfl, .inr ⟨?_, hF⟩⟩
      rw [Nat.zero_add]
      have := own_set h (i * E.k + j) u
      rw [List.length_set]
      have e : (E.flat l).set (i * E.k + j) u = E.flat (l.set i x) := by
        exact flat_set E hi hj u x hx
      rw [← e]; exact this
theorem Ow.objat {α : Type} {w : World} {F : Nat → Prop} {e : TypeId} {E : Enc α} {b off n c i : Nat} {l : List α} (h : Ow w F e E (.slice (some ⟨b, off, none⟩) n c) l) (hi : i < l.length) : ∃ cur, w.heap[b]? = some (.cells cur e (0, 0)) := by
  rcases h with ⟨a, h1, rfl⟩ | ⟨h, hF⟩
  · simp at hi
  · rcases h.2 with ⟨h0, _⟩ | ⟨g, cap, cur, h2, _, hg, _⟩
    · simp at h0
    · simp at h2
      obtain ⟨⟨rfl, rfl⟩, _⟩ := h2
      exact ⟨cur, hg⟩
/-- A store into a block of another element type leaves it. -/
theorem Ow.st_ne {α : Type} {w : World} {F : Nat → Prop} {e t : TypeId} {E : Enc α} {v : Value} {l : List α} (h : Ow w F e E v l) {b : Nat} {cs : Array Value} {fz : Nat × Nat} (hb : w.heap[b]? = some (.cells cs t fz)) (hne : e ≠ t) (i : Nat) (u : Value) : Ow (w.setCell ⟨b, i, none⟩ u) F e E v l := by
  rcases h with h | ⟨h, hF⟩
  · exact .inl h
  · exact .inr ⟨own_setCell h (own_block_elem h hb hne) u, hF⟩
theorem Ow.frz {α : Type} {w : World} {F : Nat → Prop} {e : TypeId} {E : Enc α} {b off n c i : Nat} {l : List α} (h : Ow w F e E (.slice (some ⟨b, off, none⟩) n c) l) (hi : i < l.length) (m : Nat) : w.frozen? ⟨b, m, none⟩ = false := by
  rcases h with ⟨a, h1, rfl⟩ | ⟨h, hF⟩
  · simp at hi
  · rcases h.2 with ⟨h0, _⟩ | ⟨g, cap, cur, h2, _, hg, _⟩
    · simp at h0
    · simp at h2
      obtain ⟨⟨rfl, rfl⟩, _⟩ := h2
      exact obj_frz hg m
end Go.Tt
namespace Go.Proofs.Ytheejjifcpjdbaa
open Go.RowKit Go.Lib Go.Tt
set_option maxRecDepth 100000 in
theorem spoilDots_ok {w : World} {F : Nat → Prop} {a : Option Addr} {n c : Nat} {l : List Dt} (h : Ow w F 61 eDt (.slice a n c) l) (hmx : n ≤ maxLen) :
    Calls Try.prog 53 #[.slice a n c] w fun e w' => e = .returned (.tuple #[]) ∧ Frm F w w' := by
  have hn := h.cap.1
  have HN := Lib.hid hn
  unfold maxLen at hmx
  clear hn
  go_enter Try.func53, Try.ntmps53
  go_wp2
  go_loopg [2] (n + 1) (fun g iv wr => ∃ (i : Nat) (l' : List Dt), iv = .int .i64 i ∧ i ≤ n ∧ g = n - i + 1 ∧ l'.length = l.length ∧ Frm F w wr ∧ Ow wr F 61 eDt (.slice a n c) l')
  case atStart => exact ⟨0, l, rfl, Nat.zero_le _, by omega, rfl, Frm.refl _ _, h⟩
  case round =>
    clear h
    obtain ⟨i, l', rfl, hi, hg, hl, f, O⟩ := hrel
    have hG := Lib.hid hg
    have hL := Lib.hid hl
    clear hg hl
    by_cases hlt : i < n
    · have l1 : i < l'.length := by rw [hL.out, ← HN.out]; exact hlt
      obtain ⟨b, off, rfl, -, hc⟩ := O.rd.at l1
      have e0 : wr.cell? ⟨b, off + i * 2, none⟩ = some (.int .i64 l'[i].1) := hc 0 _ rfl
      have e1 : wr.cell? ⟨b, off + i * 2 + 1, none⟩ = some (.int .i64 l'[i].2) := hc 1 _ rfl
      have hz : wr.frozen? ⟨b, off + i * 2 + 1, none⟩ = false := O.frz l1 _
      obtain ⟨x, hx⟩ : ∃ x, Hid (x = l'[i]) := ⟨_, Lib.hid rfl⟩
      have OS := fun u => O.set l1 (j := 1) (by decide) (.int .i64 u) (l'[i].1, u) rfl
      rw [← hx.out] at e0 e1
      clear hc
      go_wp2
      go_roundg (n - (i + 1) + 1)
      case measure => have := hG.out; omega
      case rel =>
        have K := OS (bits .xor .i64 x.2 90)
        exact ⟨i + 1, _, by go_num, by omega, rfl, by rw [List.length_set]; exact hL.out, f.sc K.2.1 _ _, K.2.2⟩
    · have hii : ¬ ((i : Int) < n) := by omega
      go_wp2
      go_end0
      exact ⟨rfl, f⟩
set_option maxRecDepth 100000 in
theorem spoilInts_ok {w : World} {F : Nat → Prop} {a : Option Addr} {n c : Nat} {l : List Int} (h : Ow w F 3 eInt (.slice a n c) l) (hmx : n ≤ maxLen) :
    Calls Try.prog 79 #[.slice a n c] w fun e w' => e = .returned (.tuple #[]) ∧ Frm F w w' := by
  have hn := h.cap.1
  have HN := Lib.hid hn
  unfold maxLen at hmx
  clear hn
  go_enter Try.func79, Try.ntmps79
  go_wp2
  go_loopg [2] (n + 1) (fun g iv wr => ∃ (i : Nat) (l' : List Int), iv = .int .i64 i ∧ i ≤ n ∧ g = n - i + 1 ∧ l'.length = l.length ∧ Frm F w wr ∧ Ow wr F 3 eInt (.slice a n c) l')
  case atStart => exact ⟨0, l, rfl, Nat.zero_le _, by omega, rfl, Frm.refl _ _, h⟩
  case round =>
    clear h
    obtain ⟨i, l', rfl, hi, hg, hl, f, O⟩ := hrel
    have hG := Lib.hid hg
    have hL := Lib.hid hl
    clear hg hl
    by_cases hlt : i < n
    · have l1 : i < l'.length := by rw [hL.out, ← HN.out]; exact hlt
      obtain ⟨b, off, rfl, -, hc⟩ := O.rd.at l1
      have e1 : wr.cell? ⟨b, off + i, none⟩ = some (.int .i64 l'[i]) := by have := hc 0 _ rfl; simpa [show eInt.k = 1 from rfl] using this
      have hz : wr.frozen? ⟨b, off + i, none⟩ = false := O.frz l1 _
      obtain ⟨x, hx⟩ : ∃ x, Hid (x = l'[i]) := ⟨_, Lib.hid rfl⟩
      have OS := fun u => O.set l1 (j := 0) (by decide) (.int .i64 u) u rfl
      rw [← hx.out] at e1
      clear hc
      go_wp2
      go_roundg (n - (i + 1) + 1)
      case measure => have := hG.out; omega
      case rel =>
        have K := OS (wrap64 (-9 - x))
        rw [show off + (i * eInt.k + 0) = off + i by simp [show eInt.k = 1 from rfl]] at K
        exact ⟨i + 1, _, by go_num, by omega, rfl, by rw [List.length_set]; exact hL.out, f.sc K.2.1 _ _, K.2.2⟩
    · have hii : ¬ ((i : Int) < n) := by omega
      go_wp2
      go_end0
      exact ⟨rfl, f⟩
end Go.Proofs.Ytheejjifcpjdbaa

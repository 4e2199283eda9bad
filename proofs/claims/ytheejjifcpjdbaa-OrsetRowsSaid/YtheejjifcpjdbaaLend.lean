/- Dots lent in a place with marked room behind them; spoilt; kept. -/
import Derived.Test.YtheejjifcpjdbaaSets
namespace Go.Proofs.Ytheejjifcpjdbaa
set_option linter.unusedVariables false
set_option linter.unusedSimpArgs false
open Go.RowKit Go.Lib Go.Tt
/-- A literal of some elements. -/
theorem RdS_lits {α : Type} (w : World) (E : Enc α) (l : List α) (t : TypeId) {g n : Nat} (hg : g = w.heap.size) (hn : n = l.length) (hm : l.length ≤ maxLen) : RdS (w.alloc (.cells (E.flat l).toArray t)) E (.slice (some ⟨g, 0, none⟩) n n) l := by
  subst hg hn
  refine ⟨_, l.length, rfl, Nat.le_refl _, hm, (by intro h; cases h), fun _ => ⟨w.heap.size, 0, rfl, fun m u hu => ?_⟩⟩
  rw [Nat.zero_add, World.cell?_alloc_new]
  simpa using hu
def mark : Dt := (0, 77777)
set_option maxRecDepth 100000 in
theorem lendDots_ok {w : World} {a : Option Addr} {n c : Nat} {l : List Dt} (h : RdS w eDt (.slice a n c) l) (hb : l.length * 16 ≤ reachBytes) :
    Calls Try.prog 40 #[.slice a n c] w fun e w' => ∃ a' c', e = .returned (.slice a' n c') ∧ Ow w' (Nw No w w') 61 eDt (.slice a' (n + 2) c') (l ++ [mark, mark]) ∧ Frm No w w' := by
  obtain ⟨hn, hc1, hc2, -⟩ := h.facts
  have HN := Lib.hid hn
  have H := Lib.hid h
  have hb' : n * 16 ≤ 140737488351232 := by rw [hn]; exact hb
  have hB := Lib.hid hb
  clear h hn hb
  go_enter Try.func40, Try.ntmps40
  go_wp2_with (fail)
  refine (copyDots_ok H.out hB.out).mono ?_
  rintro e w1 ⟨a1, c1, rfl, o1, f1⟩
  have f1' := f1.size
  go_wp2_with (at_builtin; refine wpList_ap _ rfl (.tmp 5) (.tmp 8) 62 62 rfl 61 _ 16 Try.underlying62 i_dt rfl (o1.al _) ((RdS_lits _ eDt [mark, mark] _ (g := w1.heap.size) (n := 2) rfl rfl (by decide)).src Try.underlying62) rfl rfl rfl ?c1 ?c2 ?_)
  case c1 => rw [← HN.out]; unfold maxLen at hc2 ⊢; omega
  case c2 => rw [← HN.out]; omega
  intro a2 c2 w2 o2 f2
  rw [← HN.out] at o2 ⊢
  have hcap := o2.cap.2
  go_wp2
  go_ret
  refine ⟨a2, c2, rfl, o2.mono fun k _ hh => ?_, ?_⟩
  · rcases hh with (hh | hh) | hh
    · exact hh.elim
    · exact .inr ⟨hh.1, by have := hh.2; have := f2.size; simp at this; omega⟩
    · exact .inr ⟨by have := hh.1; simp at this; omega, hh.2⟩
  · exact (f1.al _).then f2 fun k hk hh => by rcases hh with hh | hh; exact hh; have := hh.1; omega

/-- The first elements of a slice that reads, its capacity kept. -/
theorem RdS_pre {α : Type} {w : World} {E : Enc α} {a : Option Addr} {m n c : Nat} {l l2 : List α} (h : RdS w E (.slice a m c) (l ++ l2)) (hn : n = l.length) : RdS w E (.slice a n c) l := by
  obtain ⟨a', c', h1, h2, h3, h4, h5⟩ := h
  simp only [Value.slice.injEq] at h1
  obtain ⟨rfl, rfl, rfl⟩ := h1
  rw [List.length_append] at h2 h4 h5
  subst hn
  refine ⟨_, _, rfl, by omega, h3, fun e => ⟨by have := (h4 e).1; omega, (h4 e).2⟩, fun hl => ?_⟩
  obtain ⟨b, off, ha, hc⟩ := h5 (by omega)
  refine ⟨b, off, ha, fun m u hu => hc m u ?_⟩
  rw [E.flat_append, List.getElem?_append_left (List.getElem?_eq_some_iff.1 hu).1]
  exact hu
set_option maxRecDepth 100000 in
theorem keptDots_ok {w : World} {a a' : Option Addr} {n c c' : Nat} {l : List Dt} (h : RdS w eDt (.slice a' (n + 2) c') (l ++ [mark, mark])) (h' : RdS w eDt (.slice a n c) l) :
    Calls Try.prog 54 #[.slice a' n c', .slice a n c] w fun e w' => e = .returned (.bool true) ∧ Frm No w w' := by
  obtain ⟨hn, hc1, hc2, -⟩ := h'.facts
  obtain ⟨-, hc1', hc2', -⟩ := h.facts
  have hS := sameDots_ok (RdS_pre h hn) h'
  rw [decide_eq_true rfl] at hS
  have l1 : n < (l ++ [mark, mark]).length := by simp; omega
  have l2 : n + 1 < (l ++ [mark, mark]).length := by simp; omega
  obtain ⟨b, off, rfl, hbl, hx⟩ := h.at l1
  obtain ⟨b2, off2, heq, -, hy⟩ := h.at l2
  simp only [Option.some.injEq, Addr.mk.injEq, and_true] at heq
  obtain ⟨rfl, rfl⟩ := heq
  have g1 : (l ++ [mark, mark])[n] = mark := by simp [hn]
  have g2 : (l ++ [mark, mark])[n + 1] = mark := by simp [hn]
  rw [g1] at hx
  rw [g2] at hy
  have e0 : w.cell? ⟨b, off + n * 2, none⟩ = some (.int .i64 0) := hx 0 _ rfl
  have e1 : w.cell? ⟨b, off + n * 2 + 1, none⟩ = some (.int .i64 77777) := hx 1 _ rfl
  have e2 : w.cell? ⟨b, off + (n + 1) * 2, none⟩ = some (.int .i64 0) := hy 0 _ rfl
  have e3 : w.cell? ⟨b, off + (n + 1) * 2 + 1, none⟩ = some (.int .i64 77777) := hy 1 _ rfl
  unfold maxLen at hc2 hc2'
  clear hx hy g1 g2 l1 l2 h h' hn
  go_enter Try.func54, Try.ntmps54
  go_wp2_with (fail)
  refine hS.mono ?_
  rintro e w' ⟨rfl, m, rfl⟩
  clear hS
  go_wp2
  go_ret
  exact ⟨rfl, (Frm.refl No w).dr _⟩
end Go.Proofs.Ytheejjifcpjdbaa

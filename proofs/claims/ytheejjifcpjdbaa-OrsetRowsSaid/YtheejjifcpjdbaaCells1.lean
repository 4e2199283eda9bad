/- The words of tattlelaw0 over texts and numbers. -/
import Derived.Test.YtheejjifcpjdbaaCells0
namespace Go.Proofs.Ytheejjifcpjdbaa
set_option linter.unusedVariables false
set_option linter.unusedSimpArgs false
open Go.RowKit Go.Lib Go.Tt
set_option maxRecDepth 100000 in
theorem sameInts_ok {w : World} {a a' : Option Addr} {n c n' c' : Nat} {l l' : List Int} (h : RdS w eInt (.slice a n c) l) (h' : RdS w eInt (.slice a' n' c') l') :
    Calls Try.prog 78 #[.slice a n c, .slice a' n' c'] w fun e w' => e = .returned (.bool (decide (l = l'))) ∧ ∃ m, w' = w.drewN m := by
  obtain ⟨hn, hc1, hc2, -⟩ := h.facts
  obtain ⟨hn', hc1', hc2', -⟩ := h'.facts
  unfold maxLen at hc2 hc2'
  have HN := Lib.hid hn
  have HN' := Lib.hid hn'
  clear hn hn'
  by_cases hl : n = n'
  · subst hl
    go_enter Try.func78, Try.ntmps78
    go_wp2
    go_loopg [5] (n + 1) (fun g iv wr => ∃ (i m : Nat), iv = .int .i64 i ∧ wr = w.drewN m ∧ i ≤ n ∧ g = n - i + 1 ∧ l.take i = l'.take i)
    case atStart => exact ⟨0, 0, rfl, rfl, Nat.zero_le _, by omega, rfl⟩
    case round =>
      obtain ⟨i, m, rfl, rfl, hi, hg, hp⟩ := hrel
      have hG := Lib.hid hg
      have hP := Lib.hid hp
      clear hg hp
      by_cases hlt : i < n
      · have l1 : i < l.length := by rw [← HN.out]; exact hlt
        have l2 : i < l'.length := by rw [← HN'.out]; exact hlt
        obtain ⟨b, off, rfl, -, hc⟩ := h.at l1
        obtain ⟨b', off', rfl, -, hc'⟩ := h'.at l2
        have e0 : w.cell? ⟨b, off + i, none⟩ = some (.int .i64 l[i]) := by have := hc 0 _ rfl; simpa [show eInt.k = 1 from rfl] using this
        have d0 : w.cell? ⟨b', off' + i, none⟩ = some (.int .i64 l'[i]) := by have := hc' 0 _ rfl; simpa [show eInt.k = 1 from rfl] using this
        clear hc hc' h h'
        obtain ⟨x, hx⟩ : ∃ x, Hid (x = l[i]) := ⟨_, Lib.hid rfl⟩
        obtain ⟨y, hy⟩ : ∃ y, Hid (y = l'[i]) := ⟨_, Lib.hid rfl⟩
        rw [← hx.out] at e0
        rw [← hy.out] at d0
        go_wp2
        refine wp_region_plan [([0, 1, 2, 3, 4, 5, 6, 7, 8], [])] 26 (by kernel_rfl) (by kernel_rfl) (by simp) ?_
        intro N hN
        simp only [wpSegs, List.map_cons, List.map_nil, List.getD_cons_zero, List.getD_cons_succ]
        go_wp2
        · go_ret
          exact ⟨by simp only [Act.tmps]; rw [decide_eq_false (ne_at l1 l2 hx hy (int_ne_of ‹_›))]; rfl, _, rfl⟩
        · go_roundg (n - (i + 1) + 1)
          case measure => have := hG.out; omega
          case rel => exact ⟨i + 1, _, by go_num, rfl, by omega, rfl, take_step l1 l2 hP.out (by rw [← hx.out, ← hy.out]; exact int_eq_of ‹_›)⟩
      · have hii : ¬ ((i : Int) < n) := by omega
        go_wp2
        go_ret
        refine ⟨?_, m, rfl⟩
        have hP := hP.out
        rw [List.take_of_length_le (by have := HN.out; omega), List.take_of_length_le (by have := HN'.out; omega)] at hP
        rw [decide_eq_true hP]; rfl
  · have hr : decide (l = l') = false := decide_eq_false fun e => hl (by rw [HN.out, HN'.out, e])
    rw [hr]
    have hl' : ¬ ((n : Int) = n') := by omega
    clear hr
    go_enter Try.func78, Try.ntmps78
    go_wp2
    go_ret
    exact ⟨rfl, 0, rfl⟩
set_option maxRecDepth 100000 in
theorem sameTexts_ok {w : World} {a a' : Option Addr} {n c n' c' : Nat} {l l' : List ByteArray} (h : RdS w eStr (.slice a n c) l) (h' : RdS w eStr (.slice a' n' c') l') :
    Calls Try.prog 50 #[.slice a n c, .slice a' n' c'] w fun e w' => e = .returned (.bool (decide (l = l'))) ∧ ∃ m, w' = w.drewN m := by
  obtain ⟨hn, hc1, hc2, -⟩ := h.facts
  obtain ⟨hn', hc1', hc2', -⟩ := h'.facts
  unfold maxLen at hc2 hc2'
  have HN := Lib.hid hn
  have HN' := Lib.hid hn'
  clear hn hn'
  by_cases hl : n = n'
  · subst hl
    go_enter Try.func50, Try.ntmps50
    go_wp2
    go_loopg [5] (n + 1) (fun g iv wr => ∃ (i m : Nat), iv = .int .i64 i ∧ wr = w.drewN m ∧ i ≤ n ∧ g = n - i + 1 ∧ l.take i = l'.take i)
    case atStart => exact ⟨0, 0, rfl, rfl, Nat.zero_le _, by omega, rfl⟩
    case round =>
      obtain ⟨i, m, rfl, rfl, hi, hg, hp⟩ := hrel
      have hG := Lib.hid hg
      have hP := Lib.hid hp
      clear hg hp
      by_cases hlt : i < n
      · have l1 : i < l.length := by rw [← HN.out]; exact hlt
        have l2 : i < l'.length := by rw [← HN'.out]; exact hlt
        obtain ⟨b, off, rfl, -, hc⟩ := h.at l1
        obtain ⟨b', off', rfl, -, hc'⟩ := h'.at l2
        have e0 : w.cell? ⟨b, off + i, none⟩ = some (.string l[i]) := by have := hc 0 _ rfl; simpa [show eStr.k = 1 from rfl] using this
        have d0 : w.cell? ⟨b', off' + i, none⟩ = some (.string l'[i]) := by have := hc' 0 _ rfl; simpa [show eStr.k = 1 from rfl] using this
        clear hc hc' h h'
        obtain ⟨x, hx⟩ : ∃ x, Hid (x = l[i]) := ⟨_, Lib.hid rfl⟩
        obtain ⟨y, hy⟩ : ∃ y, Hid (y = l'[i]) := ⟨_, Lib.hid rfl⟩
        rw [← hx.out] at e0
        rw [← hy.out] at d0
        go_wp2
        refine wp_region_plan [([0, 1, 2, 3, 4, 5, 6, 7, 8], [])] 26 (by kernel_rfl) (by kernel_rfl) (by simp) ?_
        intro N hN
        simp only [wpSegs, List.map_cons, List.map_nil, List.getD_cons_zero, List.getD_cons_succ]
        go_wp2
        · go_ret
          exact ⟨by simp only [Act.tmps]; rw [decide_eq_false (ne_at l1 l2 hx hy (str_ne_of ‹_›))]; rfl, _, rfl⟩
        · go_roundg (n - (i + 1) + 1)
          case measure => have := hG.out; omega
          case rel => exact ⟨i + 1, _, by go_num, rfl, by omega, rfl, take_step l1 l2 hP.out (by rw [← hx.out, ← hy.out]; exact str_eq_of ‹_›)⟩
      · have hii : ¬ ((i : Int) < n) := by omega
        go_wp2
        go_ret
        refine ⟨?_, m, rfl⟩
        have hP := hP.out
        rw [List.take_of_length_le (by have := HN.out; omega), List.take_of_length_le (by have := HN'.out; omega)] at hP
        rw [decide_eq_true hP]; rfl
  · have hr : decide (l = l') = false := decide_eq_false fun e => hl (by rw [HN.out, HN'.out, e])
    rw [hr]
    have hl' : ¬ ((n : Int) = n') := by omega
    clear hr
    go_enter Try.func50, Try.ntmps50
    go_wp2
    go_ret
    exact ⟨rfl, 0, rfl⟩
end Go.Proofs.Ytheejjifcpjdbaa

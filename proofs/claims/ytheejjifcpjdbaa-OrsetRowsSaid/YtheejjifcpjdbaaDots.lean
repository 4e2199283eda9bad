/- Dots: may they be; their row; are they among some. -/
import Derived.Test.YtheejjifcpjdbaaCells3
namespace Go.Proofs.Ytheejjifcpjdbaa
set_option linter.unusedVariables false
set_option linter.unusedSimpArgs false
open Go.RowKit Go.Lib Go.Tt
def dotMay (d : Dt) : Bool := decide (0 ≤ d.1 ∧ d.1 < 16 ∧ 1 ≤ d.2 ∧ d.2 ≤ 1048575)
def dotLess (a b : Dt) : Bool := decide (a.1 < b.1 ∨ a.1 = b.1 ∧ a.2 < b.2)
theorem al_at {w : World} {k : Nat} {o : Obj} (h : k = w.heap.size) : (w.alloc o).heap[k]? = some o := by subst h; exact heap_alloc_new w o
theorem dec_f {p : Prop} [Decidable p] (h : ¬ p) : false = decide p := (decide_eq_false h).symm
theorem dec_t {p : Prop} [Decidable p] (h : p) : true = decide p := (decide_eq_true h).symm
theorem dec_d {p q : Prop} [Decidable p] [Decidable q] (h : p ↔ q) : decide p = decide q := decide_eq_decide.2 h
set_option maxRecDepth 100000 in
theorem dotNodes16 (w : World) : Calls Try.prog 81 #[.int .i64 16] w fun e w' => e = .returned (.bool true) ∧ w = w' := by
  go_enter Try.func81, Try.ntmps81
  go_wp2
  go_ret
  exact ⟨rfl, rfl⟩
set_option maxRecDepth 100000 in
theorem dotMay16 (d : Dt) (w : World) : Calls Try.prog 61 #[.agg #[.int .i64 d.1, .int .i64 d.2], .int .i64 16] w fun e w' => e = .returned (.bool (dotMay d)) ∧ Frm No w w' := by
  go_enter Try.func61, Try.ntmps61
  go_wp2_with (go_at_call 81; refine (dotNodes16 _).mono ?_; rintro e w' ⟨rfl, rfl⟩)
  all_goals go_ret
  all_goals exact ⟨congrArg (fun b => Ending.returned (Value.bool b)) (by unfold dotMay; first | exact dec_f (by omega) | exact dec_t (by omega) | exact dec_d (by omega)), (Frm.refl No w).al _⟩
set_option maxRecDepth 100000 in
theorem refDotMay16 (d : Dt) (w : World) : Calls Try.prog 69 #[.agg #[.int .i64 d.1, .int .i64 d.2], .int .i64 16] w fun e w' => e = .returned (.bool (dotMay d)) ∧ Frm No w w' := by
  go_enter Try.func69, Try.ntmps69
  go_wp2
  all_goals go_ret
  all_goals exact ⟨congrArg (fun b => Ending.returned (Value.bool b)) (by unfold dotMay; first | exact dec_f (by omega) | exact dec_t (by omega) | exact dec_d (by omega)), (Frm.refl No w).al _⟩
set_option maxRecDepth 100000 in
theorem refDotLess (a b : Dt) (w : World) : Calls Try.prog 70 #[.agg #[.int .i64 a.1, .int .i64 a.2], .agg #[.int .i64 b.1, .int .i64 b.2]] w fun e w' => e = .returned (.bool (dotLess a b)) ∧ Frm No w w' := by
  go_enter Try.func70, Try.ntmps70
  go_wp2
  all_goals go_ret
  all_goals exact ⟨congrArg (fun b => Ending.returned (Value.bool b)) (by unfold dotLess; first | exact dec_f (by omega) | exact dec_t (by omega) | exact dec_d (by omega)), ((Frm.refl No w).al _).al _⟩

theorem mem_step {α : Type} {l : List α} {i : Nat} {d x : α} (h : i < l.length) (hp : d ∉ l.take i) (hx : Hid (x = l[i])) (hne : x ≠ d) : d ∉ l.take (i + 1) := by
  rw [List.take_succ_eq_append_getElem h, List.mem_append]
  rintro (hh | hh)
  · exact hp hh
  · simp at hh
    exact hne (hx.out.trans hh.symm)
set_option maxRecDepth 100000 in
theorem among_ok {w : World} {a : Option Addr} {n c : Nat} {l : List Dt} (h : RdS w eDt (.slice a n c) l) (d : Dt) :
    Calls Try.prog 75 #[.slice a n c, .agg #[.int .i64 d.1, .int .i64 d.2]] w fun e w' => e = .returned (.bool (decide (d ∈ l))) ∧ Frm No w w' := by
  obtain ⟨hn, hc1, hc2, -⟩ := h.facts
  unfold maxLen at hc2
  have HN := Lib.hid hn
  clear hn
  go_enter Try.func75, Try.ntmps75
  go_wp2
  go_loopg [5] (n + 1) (fun g iv wr => ∃ (i m : Nat), iv = .int .i64 i ∧ wr = (w.alloc (.cells #[.int .i64 d.1, .int .i64 d.2] 61)).drewN m ∧ i ≤ n ∧ g = n - i + 1 ∧ d ∉ l.take i)
  case atStart => exact ⟨0, 0, rfl, rfl, Nat.zero_le _, by omega, by simp⟩
  case round =>
    obtain ⟨i, m, rfl, rfl, hi, hg, hp⟩ := hrel
    have hG := Lib.hid hg
    have hP := Lib.hid hp
    clear hg hp
    by_cases hlt : i < n
    · have l1 : i < l.length := by rw [← HN.out]; exact hlt
      obtain ⟨b, off, rfl, hb, hc⟩ := h.at l1
      have e0 : w.cell? ⟨b, off + i * 2, none⟩ = some (.int .i64 l[i].1) := hc 0 _ rfl
      have e1 : w.cell? ⟨b, off + i * 2 + 1, none⟩ = some (.int .i64 l[i].2) := hc 1 _ rfl
      clear hc h
      obtain ⟨x, hx⟩ : ∃ x, Hid (x = l[i]) := ⟨_, Lib.hid rfl⟩
      rw [← hx.out] at e0 e1
      go_wp2
      refine wp_region_plan [([0, 1, 2, 3, 4, 5], [])] 18 (by kernel_rfl) (by kernel_rfl) (by simp) ?_
      intro N hN
      simp only [wpSegs, List.map_cons, List.map_nil, List.getD_cons_zero, List.getD_cons_succ]
      go_wp2
      · go_ret
        refine ⟨?_, ((Frm.refl No w).al _).dr _⟩
        have hd : d ∈ l := by rw [← show x = d from Prod.ext ‹_› ‹_›, hx.out]; exact List.getElem_mem l1
        rw [decide_eq_true hd]; rfl
      all_goals go_roundg (n - (i + 1) + 1)
      case measure => have := hG.out; omega
      case rel => exact ⟨i + 1, _, by go_num, rfl, by omega, rfl, mem_step l1 hP.out hx fun e => ‹¬ x.2 = d.2› (by rw [e])⟩
      case measure => have := hG.out; omega
      case rel => exact ⟨i + 1, _, by go_num, rfl, by omega, rfl, mem_step l1 hP.out hx fun e => ‹¬ x.1 = d.1› (by rw [e])⟩
    · have hii : ¬ ((i : Int) < n) := by omega
      go_wp2
      go_ret
      refine ⟨?_, ((Frm.refl No w).al _).dr _⟩
      have hP := hP.out
      rw [List.take_of_length_le (by have := HN.out; omega)] at hP
      rw [decide_eq_false hP]; rfl
end Go.Proofs.Ytheejjifcpjdbaa

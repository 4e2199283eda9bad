/- Merged: Dots Fn Sets. -/
import Derived.Test.YtgpdpalhkkjmiaaGreatDoorV05
/- Dots: may they be; their row; are they among some. -/
namespace Go.Proofs.YtgpdpalhkkjmiaaGreatDoor
set_option linter.unusedVariables false
set_option linter.unusedSimpArgs false
set_option linter.unusedVariables false
set_option linter.unusedSimpArgs false
open Go.RowKit Go.Lib Go.Tt
def dotMay (d : Dt) : Bool := decide (0 ≤ d.1 ∧ d.1 < 16 ∧ 1 ≤ d.2 ∧ d.2 ≤ 1048575)
def dotLess (a b : Dt) : Bool := decide (a.1 < b.1 ∨ a.1 = b.1 ∧ a.2 < b.2)
theorem al_at {w : World} {k : Nat} {o : Obj} (h : k = w.heap.size) : (w.alloc o).heap[k]? = some o := by subst h; exact heap_alloc_new w o
theorem dec_f {p : Prop} [Decidable p] (h : ¬ p) : false = decide p := (decide_eq_false h).symm
theorem dec_t {p : Prop} [Decidable p] (h : p) : true = decide p := (decide_eq_true h).symm
theorem dec_d {p q : Prop} [Decidable p] [Decidable q] (h : p ↔ q) : decide p = decide q := decide_eq_decide.2 h
set_option maxRecDepth 100000 in
theorem dotNodes16 (w : World) : Calls Tryz.prog 137 #[.int .i64 16] w fun e w' => e = .returned (.bool true) ∧ w = w' := by
  go_enter Tryz.func137, Tryz.ntmps137
  go_wp2
  go_ret
  exact ⟨rfl, rfl⟩
set_option maxRecDepth 100000 in
theorem dotMay16 (d : Dt) (w : World) : Calls Tryz.prog 97 #[.agg #[.int .i64 d.1, .int .i64 d.2], .int .i64 16] w fun e w' => e = .returned (.bool (dotMay d)) ∧ Frm No w w' := by
  go_enter Tryz.func97, Tryz.ntmps97
  go_wp2_with (go_at_call 137; refine (dotNodes16 _).mono ?_; rintro e w' ⟨rfl, rfl⟩)
  all_goals go_ret
  all_goals exact ⟨congrArg (fun b => Ending.returned (Value.bool b)) (by unfold dotMay; first | exact dec_f (by omega) | exact dec_t (by omega) | exact dec_d (by omega)), (Frm.refl No w).al _⟩
set_option maxRecDepth 100000 in
theorem refDotMay16 (d : Dt) (w : World) : Calls Tryz.prog 55 #[.agg #[.int .i64 d.1, .int .i64 d.2], .int .i64 16] w fun e w' => e = .returned (.bool (dotMay d)) ∧ Frm No w w' := by
  go_enter Tryz.func55, Tryz.ntmps55
  go_wp2
  all_goals go_ret
  all_goals exact ⟨congrArg (fun b => Ending.returned (Value.bool b)) (by unfold dotMay; first | exact dec_f (by omega) | exact dec_t (by omega) | exact dec_d (by omega)), (Frm.refl No w).al _⟩
set_option maxRecDepth 100000 in
theorem refDotLess (a b : Dt) (w : World) : Calls Tryz.prog 56 #[.agg #[.int .i64 a.1, .int .i64 a.2], .agg #[.int .i64 b.1, .int .i64 b.2]] w fun e w' => e = .returned (.bool (dotLess a b)) ∧ Frm No w w' := by
  go_enter Tryz.func56, Tryz.ntmps56
  go_wp2
  all_goals go_ret
  all_goals exact ⟨congrArg (fun b => Ending.returned (Value.bool b)) (by unfold dotLess; first | exact dec_f (by omega) | exact dec_t (by omega) | exact dec_d (by omega)), ((Frm.refl No w).al _).al _⟩

theorem mem_step {α : Type} {l : List α} {i : Nat} {d x : α} (h : i < l.length) (hp : d ∉ l.take i) (hx : Hid (x = l[i])) (hne : x ≠ d) : d ∉ l.take (i + 1) := by
  rw [List.take_succ_eq_append_getElem h, List.mem_append]
  rintro (hh | hh)
  · exact hp hh
  · simp at hh
    exact hne (hx.out.trans hh.symm)
set_option maxRecDepth 100000 in
theorem among_ok {w : World} {a : Option Addr} {n c : Nat} {l : List Dt} (h : RdS w eDt (.slice a n c) l) (d : Dt) :
    Calls Tryz.prog 53 #[.slice a n c, .agg #[.int .i64 d.1, .int .i64 d.2]] w fun e w' => e = .returned (.bool (decide (d ∈ l))) ∧ Frm No w w' := by
  obtain ⟨hn, hc1, hc2, -⟩ := h.facts
  unfold maxLen at hc2
  have HN := Lib.hid hn
  clear hn
  go_enter Tryz.func53, Tryz.ntmps53
  go_wp2
  go_loopg [5] (n + 1) (fun g iv wr => ∃ (i m : Nat), iv = .int .i64 i ∧ wr = (w.alloc (.cells #[.int .i64 d.1, .int .i64 d.2] 83)).drewN m ∧ i ≤ n ∧ g = n - i + 1 ∧ d ∉ l.take i)
  case atStart => exact ⟨0, 0, rfl, rfl, Nat.zero_le _, by omega, by simp⟩
  case round =>
    obtain ⟨i, m, rfl, rfl, hi, hg, hp⟩ := hrel
    have hG := Lib.hid hg
    have hP := Lib.hid hp
    clear hg hp
    by_cases hlt : i < n
    · have l1 : i < l.length := by rw [← HN.out]; exact hlt
      obtain ⟨b, off, rfl, hb, hc⟩ := h.at l1
      have e0 : w.cell? ⟨b, off + i * 2, none⟩ = some (.int .i64 l[i].1) := hc 0 _ rfl
      have e1 : w.cell? ⟨b, off + i * 2 + 1, none⟩ = some (.int .i64 l[i].2) := hc 1 _ rfl
      clear hc h
      obtain ⟨x, hx⟩ : ∃ x, Hid (x = l[i]) := ⟨_, Lib.hid rfl⟩
      rw [← hx.out] at e0 e1
      go_wp2
      refine wp_region_plan [([0, 1, 2, 3, 4, 5], [])] 18 (by kernel_rfl) (by kernel_rfl) (by simp) ?_
      intro N hN
      simp only [wpSegs, List.map_cons, List.map_nil, List.getD_cons_zero, List.getD_cons_succ]
      go_wp2
      · go_ret
        refine ⟨?_, ((Frm.refl No w).al _).dr _⟩
        have hd : d ∈ l := by rw [← show x = d from Prod.ext ‹_› ‹_›, hx.out]; exact List.getElem_mem l1
        rw [decide_eq_true hd]; rfl
      all_goals go_roundg (n - (i + 1) + 1)
      case measure => have := hG.out; omega
      case rel => exact ⟨i + 1, _, by go_num, rfl, by omega, rfl, mem_step l1 hP.out hx fun e => ‹¬ x.2 = d.2› (by rw [e])⟩
      case measure => have := hG.out; omega
      case rel => exact ⟨i + 1, _, by go_num, rfl, by omega, rfl, mem_step l1 hP.out hx fun e => ‹¬ x.1 = d.1› (by rw [e])⟩
    · have hii : ¬ ((i : Int) < n) := by omega
      go_wp2
      go_ret
      refine ⟨?_, ((Frm.refl No w).al _).dr _⟩
      have hP := hP.out
      rw [List.take_of_length_le (by have := HN.out; omega)] at hP
      rw [decide_eq_false hP]; rfl
end Go.Proofs.YtgpdpalhkkjmiaaGreatDoor

/- Sets: functions of the library that take a function. -/
namespace Go.Proofs.YtgpdpalhkkjmiaaGreatDoor
set_option linter.unusedVariables false
set_option linter.unusedSimpArgs false
open Go.RowKit Go.Lib Go.Tt
/-- What cmp.Compare tells. -/
def cmpI (x y : Int) : Int := if x < y then -1 else if y < x then 1 else 0
set_option maxRecDepth 100000 in
theorem isNaN_ok (x : Int) (w : World) : Calls Tryz.prog 167 #[.int .i64 x] w fun e w' => e = .returned (.bool false) ∧ w = w' := by
  go_enter Tryz.func167, Tryz.ntmps167
  go_wp2
  go_ret
  exact ⟨rfl, rfl⟩
set_option maxRecDepth 100000 in
theorem compare_ok (x y : Int) (w : World) : Calls Tryz.prog 139 #[.int .i64 x, .int .i64 y] w fun e w' => e = .returned (.int .i64 (cmpI x y)) ∧ w = w' := by
  by_cases h1 : x < y
  · rw [show cmpI x y = -1 by unfold cmpI; rw [if_pos h1]]
    go_enter Tryz.func139, Tryz.ntmps139
    go_wp2_with (go_at_call 167; refine (isNaN_ok _ _).mono ?_; rintro e w' ⟨rfl, rfl⟩)
    go_ret
    exact ⟨rfl, rfl⟩
  · by_cases h2 : y < x
    · rw [show cmpI x y = 1 by unfold cmpI; rw [if_neg h1, if_pos h2]]
      go_enter Tryz.func139, Tryz.ntmps139
      go_wp2_with (go_at_call 167; refine (isNaN_ok _ _).mono ?_; rintro e w' ⟨rfl, rfl⟩)
      go_ret
      exact ⟨rfl, rfl⟩
    · rw [show cmpI x y = 0 by unfold cmpI; rw [if_neg h1, if_neg h2]]
      go_enter Tryz.func139, Tryz.ntmps139
      go_wp2_with (go_at_call 167; refine (isNaN_ok _ _).mono ?_; rintro e w' ⟨rfl, rfl⟩)
      go_ret
      exact ⟨rfl, rfl⟩
/-- What cmp.Or tells of two. -/
def orI (x y : Int) : Int := if x = 0 then y else x
set_option maxRecDepth 100000 in
theorem or_ok {w : World} {b : Nat} {x y : Int} {n : Nat} (h0 : w.cell? ⟨b, 0, none⟩ = some (.int .i64 x)) (h1 : w.cell? ⟨b, 1, none⟩ = some (.int .i64 y)) :
    Calls Tryz.prog 138 #[.slice (some ⟨b, 0, none⟩) 2 n] w fun e w' => e = .returned (.int .i64 (orI x y)) ∧ w = w' := by
  by_cases hx : x = 0
  · rw [show orI x y = y by unfold orI; rw [if_pos hx]]
    subst hx
    go_enter Tryz.func138, Tryz.ntmps138
    go_wp2
    go_loopg [8] 3 (fun g iv wr => wr = w ∧ ∃ i : Nat, iv = .int .i64 i ∧ i ≤ 2 ∧ g = 3 - i ∧ (y = 0 ∨ i ≤ 1))
    case atStart => exact ⟨rfl, 0, rfl, by omega, by omega, .inr (by omega)⟩
    case round =>
      obtain ⟨rfl, i, rfl, hi, hg, hy⟩ := hrel
      have hG := Lib.hid hg
      clear hg
      match i, hi with
      | 0, _ =>
        go_wp2
        go_roundg 2
        case measure => have := hG.out; omega
        case rel => exact ⟨rfl, 1, rfl, by omega, rfl, .inr (by omega)⟩
      | 1, _ =>
        by_cases hy0 : y = 0
        · subst hy0
          go_wp2
          go_roundg 1
          case measure => have := hG.out; omega
          case rel => exact ⟨rfl, 2, rfl, by omega, rfl, .inl trivial⟩
        · go_wp2
          go_ret
          exact ⟨rfl, rfl⟩
      | 2, _ =>
        obtain rfl : y = 0 := by omega
        go_wp2
        go_ret
        exact ⟨rfl, rfl⟩
  · rw [show orI x y = x by unfold orI; rw [if_neg hx]]
    go_enter Tryz.func138, Tryz.ntmps138
    go_wp2
    go_loopg [8] 3 (fun g iv wr => wr = w ∧ iv = .int .i64 0 ∧ g = 3)
    case atStart => exact ⟨rfl, rfl, rfl⟩
    case round =>
      obtain ⟨rfl, rfl, hg⟩ := hrel
      go_wp2
      go_ret
      exact ⟨rfl, rfl⟩
set_option maxRecDepth 100000 in
theorem dotCompare_ok (a b : Dt) (w : World) : Calls Tryz.prog 102 #[.agg #[.int .i64 a.1, .int .i64 a.2], .agg #[.int .i64 b.1, .int .i64 b.2]] w fun e w' => e = .returned (.int .i64 (orI (cmpI a.1 b.1) (cmpI a.2 b.2))) ∧ Frm No w w' := by
  have hc1 := fun W => compare_ok a.1 b.1 W
  have hc2 := fun W => compare_ok a.2 b.2 W
  obtain ⟨u, hu⟩ : ∃ u, Hid (u = cmpI a.1 b.1) := ⟨_, Lib.hid rfl⟩
  obtain ⟨v, hv⟩ : ∃ v, Hid (v = cmpI a.2 b.2) := ⟨_, Lib.hid rfl⟩
  rw [← hu.out] at hc1 ⊢
  rw [← hv.out] at hc2 ⊢
  go_enter Tryz.func102, Tryz.ntmps102
  go_wp2
  refine wp_region_plan [([0, 1, 2, 3, 5, 6, 7, 8, 4], [8, 6]), ([9, 10, 11, 12], [])] 17 (by kernel_rfl) (by kernel_rfl) (by simp) ?_
  intro N hN
  simp only [wpSegs, List.map_cons, List.map_nil, List.getD_cons_zero, List.getD_cons_succ]
  go_wp2_with (fail)
  refine (hc1 _).mono ?_
  rintro e w' ⟨rfl, rfl⟩
  go_wp2_with (fail)
  refine ⟨again_cons (again_of rfl rfl ?_) (again_cons (again_of rfl rfl ?_) again_nil), ?_⟩
  · go_simp
  · go_simp
  go_wp2_with (fail)
  refine (hc2 _).mono ?_
  rintro e w' ⟨rfl, rfl⟩
  go_wp2_with (fail)
  refine (or_ok (x := u) (y := v) (obj_cell (al_at (by simp)) 0) (obj_cell (al_at (by simp)) 1)).mono ?_
  rintro e w1 ⟨rfl, rfl⟩
  go_wp2
  go_ret
  exact ⟨rfl, ((((Frm.refl No w).al _).al _).al _).dr 1⟩
set_option maxRecDepth 100000 in
theorem put1_ok {w : World} {B : Nat} {d : Dt} (hB : w.heap[B]? = some (.cells #[.int .i64 d.1, .int .i64 d.2] 83 (0, 0))) (x : En) :
    Calls Tryz.prog 96 #[.agg #[.int .i64 x.1, .int .i64 x.2.1, .string x.2.2], .pointer (some ⟨B, 0, none⟩)] w fun e w' => e = .returned (.bool (decide ((x.1, x.2.1) = d))) ∧ Frm No w w' := by
  have d0 : w.cell? ⟨B, 0, none⟩ = some (.int .i64 d.1) := obj_cell hB 0
  have d1 : w.cell? ⟨B, 1, none⟩ = some (.int .i64 d.2) := obj_cell hB 1
  have hlt := lt_of_block hB
  go_enter Tryz.func96, Tryz.ntmps96
  go_wp2
  all_goals go_ret
  all_goals refine ⟨congrArg (fun b => Ending.returned (Value.bool b)) ?_, (Frm.refl No w).al _⟩
  · exact dec_t (Prod.ext ‹_› ‹_›)
  · exact dec_f fun e => ‹¬ x.2.1 = d.2› (congrArg Prod.snd e)
  · exact dec_f fun e => ‹¬ x.1 = d.1› (congrArg Prod.fst e)
def gtI (x : Int) : Bool := decide (0 < x)
theorem gt_less (a b : Dt) : decide (0 < orI (cmpI a.1 b.1) (cmpI a.2 b.2)) = dotLess b a := by
  unfold dotLess orI cmpI
  refine decide_eq_decide.2 ?_
  by_cases h1 : a.1 < b.1
  · rw [if_pos h1]; simp; omega
  · rw [if_neg h1]
    by_cases h2 : b.1 < a.1
    · rw [if_pos h2]; simp; omega
    · rw [if_neg h2]
      simp only [if_true]
      by_cases h3 : a.2 < b.2
      · rw [if_pos h3]; simp; omega
      · rw [if_neg h3]
        by_cases h4 : b.2 < a.2
        · rw [if_pos h4]; simp; omega
        · rw [if_neg h4]; simp; omega
set_option maxRecDepth 100000 in
theorem put2_ok {w : World} {B : Nat} {d : Dt} (hB : w.heap[B]? = some (.cells #[.int .i64 d.1, .int .i64 d.2] 83 (0, 0))) (x : En) :
    Calls Tryz.prog 101 #[.agg #[.int .i64 x.1, .int .i64 x.2.1, .string x.2.2], .pointer (some ⟨B, 0, none⟩)] w fun e w' => e = .returned (.bool (dotLess d (x.1, x.2.1))) ∧ Frm No w w' := by
  rw [← gt_less]
  have d0 : w.cell? ⟨B, 0, none⟩ = some (.int .i64 d.1) := obj_cell hB 0
  have d1 : w.cell? ⟨B, 1, none⟩ = some (.int .i64 d.2) := obj_cell hB 1
  have hlt := lt_of_block hB
  have hc := fun W => dotCompare_ok (x.1, x.2.1) d W
  obtain ⟨u, hu⟩ : ∃ u, Hid (u = orI (cmpI (x.1, x.2.1).1 d.1) (cmpI (x.1, x.2.1).2 d.2)) := ⟨_, Lib.hid rfl⟩
  rw [← hu.out] at hc ⊢
  go_enter Tryz.func101, Tryz.ntmps101
  go_wp2_with (fail)
  refine (hc _).mono ?_
  rintro e w1 ⟨rfl, f1⟩
  go_wp2
  all_goals go_ret
  all_goals refine ⟨congrArg (fun b => Ending.returned (Value.bool b)) ?_, ((Frm.refl No w).al _).trans f1⟩
  all_goals first
    | rfl
    | exact dec_t ‹_›
    | exact dec_f (by omega)
/-- A function value that tells p of an entry. -/
def PredOk (w : World) (g : Nat) (lb : Array Value) (p : En → Bool) : Prop :=
  ∀ (W : World) (x : En), Frm No w W → Calls Tryz.prog g (#[.agg #[.int .i64 x.1, .int .i64 x.2.1, .string x.2.2]] ++ lb) W fun e w' => e = .returned (.bool (p x)) ∧ Frm No W w'
/-- What IndexFunc tells. -/
def idxF (l : List En) (p : En → Bool) : Int := if l.findIdx p < l.length then l.findIdx p else -1
set_option maxRecDepth 100000 in
theorem indexFunc_ok {w : World} {a : Option Addr} {n c : Nat} {l : List En} (h : RdS w eEn (.slice a n c) l) {g : Nat} {lb : Array Value} {p : En → Bool} (hp : PredOk w g lb p)
    (eg : ∀ args w, (callFunc g args).run Tryz.prog w = .ok (.enter g args) w) :
    Calls Tryz.prog 100 #[.slice a n c, .func (.func g) #[] lb] w fun e w' => e = .returned (.int .i64 (idxF l p)) ∧ Frm No w w' := by
  obtain ⟨hn, hc1, hc2, -⟩ := h.facts
  unfold maxLen at hc2
  have HN := Lib.hid hn
  have HP := Lib.hid hp
  clear hn hp
  go_enter Tryz.func100, Tryz.ntmps100
  go_wp2
  go_loopg [5, 8] (n + 1) (fun gg _ iv wr => ∃ (i : Nat), iv = .int .i64 i ∧ i ≤ n ∧ gg = n - i + 1 ∧ Frm No w wr ∧ ∀ j (hj : j < l.length), j < i → p l[j] = false)
  case atStart => exact ⟨0, rfl, Nat.zero_le _, by omega, Frm.refl _ _, fun j hj h => by omega⟩
  case round =>
    obtain ⟨i, rfl, hi, hg, f, h1⟩ := hrel
    have hG := Lib.hid hg
    have H1 := Lib.hid h1
    clear hg h1
    by_cases hlt : i < n
    · have l1 : i < l.length := by rw [← HN.out]; exact hlt
      obtain ⟨b, off, rfl, hb, hc⟩ := (h.no f).at l1
      have e0 : wr.cell? ⟨b, off + i * 3, none⟩ = some (.int .i64 l[i].1) := hc 0 _ rfl
      have e1 : wr.cell? ⟨b, off + i * 3 + 1, none⟩ = some (.int .i64 l[i].2.1) := hc 1 _ rfl
      have e2 : wr.cell? ⟨b, off + i * 3 + 2, none⟩ = some (.string l[i].2.2) := hc 2 _ rfl
      clear hc h
      have hcall := HP.out wr l[i] f
      obtain ⟨x, hx⟩ : ∃ x, Hid (x = l[i]) := ⟨_, Lib.hid rfl⟩
      rw [← hx.out] at e0 e1 e2 hcall
      cases hq : p x with
      | true =>
        rw [hq] at hcall
        have HQ := Lib.hid hq
        clear hq
        go_wp2_with (fail)
        refine hcall.mono ?_
        rintro e w' ⟨rfl, hb'⟩
        go_wp2
        go_ret
        refine ⟨?_, f.trans hb'⟩
        have e : l.findIdx p = i := by
          rw [List.findIdx_eq l1]
          exact ⟨by rw [← hx.out]; exact HQ.out, fun j hj => by simpa using H1.out j (by omega) hj⟩
        unfold idxF
        rw [e, if_pos l1]; rfl
      | false =>
        rw [hq] at hcall
        have HQ := Lib.hid hq
        clear hq
        go_wp2_with (fail)
        refine hcall.mono ?_
        rintro e w' ⟨rfl, hb'⟩
        go_wp2
        go_roundg (n - (i + 1) + 1)
        case measure => have := hG.out; omega
        case rel =>
          refine ⟨i + 1, by go_num, by omega, rfl, f.trans hb', fun j hj hji => ?_⟩
          rcases Nat.lt_or_ge j i with h3 | h3
          · exact H1.out j hj h3
          · obtain rfl : j = i := by omega
            rw [← hx.out]; exact HQ.out
    · have hii : ¬ ((i : Int) < n) := by omega
      go_wp2
      go_ret
      refine ⟨?_, f⟩
      have e : l.findIdx p = l.length := List.findIdx_eq_length_of_false fun x hx => by
        obtain ⟨j, hj, rfl⟩ := List.getElem_of_mem hx
        simpa using H1.out j hj (by have := HN.out; omega)
      unfold idxF
      rw [e, if_neg (Nat.lt_irrefl _)]; rfl
theorem idxF_nonneg (l : List En) (p : En → Bool) : decide (0 ≤ idxF l p) = l.any p := by
  unfold idxF
  by_cases h : l.findIdx p < l.length
  · rw [if_pos h, decide_eq_true (by omega)]
    exact (List.any_eq_true.2 (by obtain h' := List.findIdx_lt_length.1 h; exact h')).symm
  · rw [if_neg h]
    have h' : ¬ ∃ x ∈ l, p x = true := fun e => h (List.findIdx_lt_length.2 e)
    have : l.any p = false := by
      rw [Bool.eq_false_iff]
      exact fun e => h' (List.any_eq_true.1 e)
    rw [this]
    rfl
set_option maxRecDepth 100000 in
theorem containsFunc_ok {w : World} {a : Option Addr} {n c : Nat} {l : List En} (h : RdS w eEn (.slice a n c) l) {g : Nat} {lb : Array Value} {p : En → Bool} (hp : PredOk w g lb p)
    (eg : ∀ args w, (callFunc g args).run Tryz.prog w = .ok (.enter g args) w) :
    Calls Tryz.prog 99 #[.slice a n c, .func (.func g) #[] lb] w fun e w' => e = .returned (.bool (l.any p)) ∧ Frm No w w' := by
  rw [← idxF_nonneg]
  have hc := indexFunc_ok h hp eg
  clear hp h
  obtain ⟨u, hu⟩ : ∃ u, Hid (u = idxF l p) := ⟨_, Lib.hid rfl⟩
  rw [← hu.out] at hc ⊢
  go_enter Tryz.func99, Tryz.ntmps99
  go_wp2_with (fail)
  refine hc.mono ?_
  rintro e w1 ⟨rfl, f1⟩
  go_wp2
  all_goals go_ret
  all_goals refine ⟨congrArg (fun b => Ending.returned (Value.bool b)) ?_, f1⟩
  all_goals first
    | rfl
    | exact dec_t (by omega)
    | exact dec_f (by omega)
end Go.Proofs.YtgpdpalhkkjmiaaGreatDoor

/- Sets: the dots that put a value, told alike by the program and by the document's answer. -/
namespace Go.Proofs.YtgpdpalhkkjmiaaGreatDoor
set_option linter.unusedVariables false
set_option linter.unusedSimpArgs false
open Go.RowKit Go.Lib Go.Tt
/-- The dots that put a value. -/
def dotsOf (l : List En) (v : ByteArray) : List Dt := (l.filter fun e => e.2.2 = v).map fun e => (e.1, e.2.1)
theorem dotsOf_len (l : List En) (v : ByteArray) : (dotsOf l v).length ≤ l.length := by
  unfold dotsOf; rw [List.length_map]; exact List.length_filter_le _ _
theorem dotsOf_step {l : List En} {v : ByteArray} {i : Nat} {x : En} (h : i < l.length) (hx : Hid (x = l[i])) : dotsOf (l.take (i + 1)) v = dotsOf (l.take i) v ++ if x.2.2 = v then [(x.1, x.2.1)] else [] := by
  rw [List.take_succ_eq_append_getElem h, ← hx.out]
  unfold dotsOf
  rw [List.filter_append, List.map_append]
  by_cases hv : x.2.2 = v <;> simp [hv]
theorem str_eq {x y : ByteArray} (h : (x.toList == y.toList) = true) : x = y := str_eq_of (by rw [h]; rfl)
theorem str_ne {x y : ByteArray} (h : (x.toList == y.toList) = false) : ¬ x = y := str_ne_of (by rw [h]; rfl)
set_option maxRecDepth 100000 in
theorem refDotsOf_ok {w : World} {c : CellV} {ve vl vs : Value} (h : CellR w c ve vl vs) (hb : CellB c) (hk : c.kind = 2) (v : ByteArray) :
    Calls Tryz.prog 33 #[cval c ve vl vs, .string v] w fun e w' => ∃ a' n' c', e = .returned (.tuple #[.slice a' n' c', .int .i64 0]) ∧ Ow w' (Nw No w w') 83 eDt (.slice a' n' c') (dotsOf c.ents v) ∧ Frm No w w' := by
  obtain ⟨he, hl, hs⟩ := h
  obtain ⟨ae, ce, rfl⟩ := he.sh
  obtain ⟨al, cl, rfl⟩ := hl.sh
  obtain ⟨at_, cs, rfl⟩ := hs.sh
  unfold cval
  rw [hk]
  go_enter Tryz.func33, Tryz.ntmps33
  go_wp2
  obtain ⟨wb, hwb⟩ : ∃ wb, Hid (wb = w.alloc (.cells #[.int .i64 2, .bool c.set, .int .i64 c.st.1, .int .i64 c.st.2, .string c.value, .int .i64 c.num.1, .int .i64 c.num.2, .slice ae c.ents.length ce, .slice al c.elems.length cl, .slice at_ c.seen.length cs] 75)) := ⟨_, Lib.hid rfl⟩
  have HE := Lib.hid he
  have hb1 : c.ents.length * 32 ≤ 140737488351232 := hb.e
  clear he hl hs hk hb
  go_loopg [6, 7] (c.ents.length + 1) (fun g ov iv wr => ∃ (i : Nat) (ao : Option Addr) (no co : Nat), iv = .int .i64 i ∧ ov = .slice ao no co ∧ i ≤ c.ents.length ∧ g = c.ents.length - i + 1 ∧ Frm No w wr ∧
    wr.heap[w.heap.size]? = some (.cells #[.int .i64 2, .bool c.set, .int .i64 c.st.1, .int .i64 c.st.2, .string c.value, .int .i64 c.num.1, .int .i64 c.num.2, .slice ae c.ents.length ce, .slice al c.elems.length cl, .slice at_ c.seen.length cs] 75 (0, 0)) ∧
    Ow wr (fun k => w.heap.size + 1 ≤ k) 83 eDt (.slice ao no co) (dotsOf (c.ents.take i) v))
  case atStart => exact ⟨0, none, 0, 0, rfl, rfl, Nat.zero_le _, by omega, (Frm.refl No w).al _, heap_alloc_new w _, Ow.nil _ _ _ _ _⟩
  case round =>
    obtain ⟨i, ao, no, co, rfl, rfl, hi, hg, F, B, O⟩ := hrel
    have hG := Lib.hid hg
    have n1 : w.heap.size < wr.heap.size := lt_of_block B
    have q7 : wr.cell? ⟨w.heap.size, 7, none⟩ = some (.slice ae c.ents.length ce) := obj_cell B 7
    clear hg
    by_cases hlt : i < c.ents.length
    · obtain ⟨b, off, rfl, hbl, hc⟩ := (HE.out.no F).at hlt
      have e0 : wr.cell? ⟨b, off + i * 3, none⟩ = some (.int .i64 c.ents[i].1) := hc 0 _ rfl
      have e1 : wr.cell? ⟨b, off + i * 3 + 1, none⟩ = some (.int .i64 c.ents[i].2.1) := hc 1 _ rfl
      have e2 : wr.cell? ⟨b, off + i * 3 + 2, none⟩ = some (.string c.ents[i].2.2) := hc 2 _ rfl
      clear hc
      obtain ⟨x, hx⟩ : ∃ x, Hid (x = c.ents[i]) := ⟨_, Lib.hid rfl⟩
      rw [← hx.out] at e0 e1 e2
      have hno := O.cap.1
      have hle : (dotsOf (c.ents.take i) v).length ≤ i := Nat.le_trans (dotsOf_len _ v) (by rw [List.length_take]; omega)
      have HN := Lib.hid hno
      have hle' : no ≤ i := by omega
      clear hno hle
      go_wp2_with (at_builtin; refine wpList_ap _ rfl (.tmp 26) (.tmp 33) 76 76 rfl 83 _ 16 Tryz.underlying76 i_dt rfl (O.al _) ((RdS.lit1 _ eDt (x.1, x.2.1) _).src Tryz.underlying76) rfl rfl rfl ?c1 ?c2 ?_)
      case c1 => rw [← HN.out]; unfold maxLen; omega
      case c2 => rw [← HN.out]; omega
      · intro a' c' w1 o1 f1
        have B1 := f1.obj (al_old B) (by omega)
        have F1 : Frm No w w1 := (F.al _).then f1 fun k hk hh => by omega
        rw [← HN.out] at o1
        go_wp2
        go_roundg (c.ents.length - (i + 1) + 1)
        case measure => have := hG.out; omega
        case rel =>
          have hv : x.2.2 = v := str_eq ‹_›
          have hs := dotsOf_step (v := v) hlt hx
          rw [if_pos hv] at hs
          exact ⟨i + 1, a', no + 1, c', by go_num, by rw [HN.out], by omega, rfl, F1, B1, by rw [hs]; exact o1.mono fun k _ hh => by rcases hh with hh | hh; exact hh; have := hh.1; simp at this; omega⟩
      · go_roundg (c.ents.length - (i + 1) + 1)
        case measure => have := hG.out; omega
        case rel =>
          have hv : ¬ x.2.2 = v := str_ne ‹_›
          have hs := dotsOf_step (v := v) hlt hx
          rw [if_neg hv, List.append_nil] at hs
          exact ⟨i + 1, ao, no, co, by go_num, rfl, by omega, rfl, F, B, by rw [hs]; exact O⟩
    · have hii : ¬ ((i : Int) < c.ents.length) := by omega
      go_wp2
      go_ret2
      have : c.ents.take i = c.ents := List.take_of_length_le (by omega)
      rw [this] at O
      exact ⟨ao, no, co, rfl, O.fin (by omega), F⟩

set_option maxRecDepth 100000 in
theorem dots_ok {w : World} {c : CellV} {ve vl vs : Value} (h : CellR w c ve vl vs) (hb : CellB c) (hk : c.kind = 2) (v : ByteArray) :
    Calls Tryz.prog 70 #[cval c ve vl vs, .string v] w fun e w' => ∃ a' n' c', e = .returned (.tuple #[.slice a' n' c', .int .i64 0]) ∧ Ow w' (Nw No w w') 83 eDt (.slice a' n' c') (dotsOf c.ents v) ∧ Frm No w w' := by
  obtain ⟨he, hl, hs⟩ := h
  obtain ⟨ae, ce, rfl⟩ := he.sh
  obtain ⟨al, cl, rfl⟩ := hl.sh
  obtain ⟨at_, cs, rfl⟩ := hs.sh
  unfold cval
  rw [hk]
  have HE := Lib.hid he
  have hb1 : c.ents.length * 32 ≤ 140737488351232 := hb.e
  clear he hl hs hk hb
  go_enter Tryz.func70, Tryz.ntmps70
  go_wp2
  go_loopg [6, 15] (c.ents.length + 1) (fun g ov iv wr => ∃ (i : Nat) (ao : Option Addr) (no co : Nat), iv = .int .i64 i ∧ ov = .slice ao no co ∧ i ≤ c.ents.length ∧ g = c.ents.length - i + 1 ∧ Frm No w wr ∧ w.heap.size + 1 ≤ wr.heap.size ∧
    Ow wr (fun k => w.heap.size + 1 ≤ k) 83 eDt (.slice ao no co) (dotsOf (c.ents.take i) v))
  case atStart => exact ⟨0, none, 0, 0, rfl, rfl, Nat.zero_le _, by omega, (Frm.refl No w).al _, by simp, Ow.nil _ _ _ _ _⟩
  case round =>
    obtain ⟨i, ao, no, co, rfl, rfl, hi, hg, F, hsz, O⟩ := hrel
    have hG := Lib.hid hg
    clear hg
    by_cases hlt : i < c.ents.length
    · obtain ⟨b, off, rfl, hbl, hc⟩ := (HE.out.no F).at hlt
      have e0 : wr.cell? ⟨b, off + i * 3, none⟩ = some (.int .i64 c.ents[i].1) := hc 0 _ rfl
      have e1 : wr.cell? ⟨b, off + i * 3 + 1, none⟩ = some (.int .i64 c.ents[i].2.1) := hc 1 _ rfl
      have e2 : wr.cell? ⟨b, off + i * 3 + 2, none⟩ = some (.string c.ents[i].2.2) := hc 2 _ rfl
      clear hc
      obtain ⟨x, hx⟩ : ∃ x, Hid (x = c.ents[i]) := ⟨_, Lib.hid rfl⟩
      rw [← hx.out] at e0 e1 e2
      have hno := O.cap.1
      have hle : (dotsOf (c.ents.take i) v).length ≤ i := Nat.le_trans (dotsOf_len _ v) (by rw [List.length_take]; omega)
      have HN := Lib.hid hno
      have hle' : no ≤ i := by omega
      clear hno hle
      go_wp2_with (at_builtin; refine wpList_ap _ rfl (.tmp 23) (.tmp 26) 76 76 rfl 83 _ 16 Tryz.underlying76 i_dt rfl ((O.al _).al _) ((RdS.litg _ eDt (x.1, x.2.1) _ (g := wr.heap.size + 1) (by simp)).src Tryz.underlying76) rfl rfl rfl ?c1 ?c2 ?_)
      case c1 => rw [← HN.out]; unfold maxLen; omega
      case c2 => rw [← HN.out]; omega
      · intro a' c' w1 o1 f1
        have F1 : Frm No w w1 := ((F.al _).al _).then f1 fun k hk hh => by omega
        have z1 : w.heap.size + 1 ≤ w1.heap.size := by have := f1.size; simp at this; omega
        rw [← HN.out] at o1
        go_wp2
        go_roundg (c.ents.length - (i + 1) + 1)
        case measure => have := hG.out; omega
        case rel =>
          have hv : x.2.2 = v := str_eq ‹_›
          have hs := dotsOf_step (v := v) hlt hx
          rw [if_pos hv] at hs
          exact ⟨i + 1, a', no + 1, c', by go_num, by rw [HN.out], by omega, rfl, F1, z1, by rw [hs]; exact o1.mono fun k _ hh => by rcases hh with hh | hh; exact hh; have := hh.1; simp at this; omega⟩
      · go_roundg (c.ents.length - (i + 1) + 1)
        case measure => have := hG.out; omega
        case rel =>
          have hv : ¬ x.2.2 = v := str_ne ‹_›
          have hs := dotsOf_step (v := v) hlt hx
          rw [if_neg hv, List.append_nil] at hs
          exact ⟨i + 1, ao, no, co, by go_num, rfl, by omega, rfl, F.al _, by simp; omega, by rw [hs]; exact O.al _⟩
    · have hii : ¬ ((i : Int) < c.ents.length) := by omega
      go_wp2
      go_ret2
      have : c.ents.take i = c.ents := List.take_of_length_le (by omega)
      rw [this] at O
      exact ⟨ao, no, co, rfl, O.fin (by omega), F⟩
end Go.Proofs.YtgpdpalhkkjmiaaGreatDoor

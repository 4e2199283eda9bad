/- Merged: Cells0. -/
import Derived.Test.YtofikfkgiblblaaGreatDoorProg
import Derived.Deep.LoopGhost
import Derived.Test.YtofikfkgiblblaaGreatDoorQ02
import Derived.Test.YtofikfkgiblblaaGreatDoorQ05
/- The elements of cells: dots, entries, elements of lists; how they are told by their cells. -/
namespace Go.Proofs.YtofikfkgiblblaaGreatDoor
set_option linter.unusedVariables false
set_option linter.unusedSimpArgs false
set_option linter.unusedVariables false
set_option linter.unusedSimpArgs false
open Go.RowKit Go.Lib Go.Tt

abbrev Dt := Int × Int
abbrev En := Int × Int × ByteArray
abbrev El := Int × Int × Int × ByteArray × Bool
def eInt : Enc Int := ⟨1, fun n => [.int .i64 n], fun _ => rfl, fun x u hu => by simp at hu; subst hu; rfl, by decide⟩
def eStr : Enc ByteArray := ⟨1, fun s => [.string s], fun _ => rfl, fun x u hu => by simp at hu; subst hu; rfl, by decide⟩
def eDt : Enc Dt := ⟨2, fun d => [.int .i64 d.1, .int .i64 d.2], fun _ => rfl, fun x u hu => by simp at hu; rcases hu with rfl | rfl <;> rfl, by decide⟩
def eEn : Enc En := ⟨3, fun d => [.int .i64 d.1, .int .i64 d.2.1, .string d.2.2], fun _ => rfl, fun x u hu => by simp at hu; rcases hu with rfl | rfl | rfl <;> rfl, by decide⟩
def eEl : Enc El := ⟨5, fun d => [.int .i64 d.1, .int .i64 d.2.1, .int .i64 d.2.2.1, .string d.2.2.2.1, .bool d.2.2.2.2], fun _ => rfl, fun x u hu => by simp at hu; rcases hu with rfl | rfl | rfl | rfl | rfl <;> rfl, by decide⟩

theorem i_int : (Tryz.prog.info? 3).map (fun i => (i.zero, i.size, i.bytes)) = some (some (.int .i64 0), eInt.k, 8) := by kernel_rfl
theorem i_str : (Tryz.prog.info? 9).map (fun i => (i.zero, i.size, i.bytes)) = some (some (.string ByteArray.empty), eStr.k, 16) := by kernel_rfl
theorem i_dt : (Tryz.prog.info? 32).map (fun i => (i.zero, i.size, i.bytes)) = some (some (.agg #[.int .i64 0, .int .i64 0]), eDt.k, 16) := by kernel_rfl
theorem i_en : (Tryz.prog.info? 62).map (fun i => (i.zero, i.size, i.bytes)) = some (some (.agg #[.int .i64 0, .int .i64 0, .string ByteArray.empty]), eEn.k, 32) := by kernel_rfl
theorem i_el : (Tryz.prog.info? 59).map (fun i => (i.zero, i.size, i.bytes)) = some (some (.agg #[.int .i64 0, .int .i64 0, .int .i64 0, .string ByteArray.empty, .bool false]), eEl.k, 48) := by kernel_rfl

set_option maxRecDepth 100000 in
theorem sameDots_ok {w : World} {a a' : Option Addr} {n c n' c' : Nat} {l l' : List Dt} (h : RdS w eDt (.slice a n c) l) (h' : RdS w eDt (.slice a' n' c') l') :
    Calls Tryz.prog 59 #[.slice a n c, .slice a' n' c'] w fun e w' => e = .returned (.bool (decide (l = l'))) ∧ ∃ m, w' = w.drewN m := by
  obtain ⟨hn, hc1, hc2, -⟩ := h.facts
  obtain ⟨hn', hc1', hc2', -⟩ := h'.facts
  unfold maxLen at hc2 hc2'
  have HN := Lib.hid hn
  have HN' := Lib.hid hn'
  clear hn hn'
  by_cases hl : n = n'
  · subst hl
    go_enter Tryz.func59, Tryz.ntmps59
    go_wp2
    go_loopg [5] (n + 1) (fun g iv wr => ∃ (i m : Nat), iv = .int .i64 i ∧ wr = w.drewN m ∧ i ≤ n ∧ g = n - i + 1 ∧ l.take i = l'.take i)
    case atStart => exact ⟨0, 0, rfl, rfl, Nat.zero_le _, by omega, rfl⟩
    case round =>
      obtain ⟨i, m, rfl, rfl, hi, hg, hp⟩ := hrel
      have hG := Lib.hid hg
      have hP := Lib.hid hp
      clear hg hp
      by_cases hlt : i < n
      · have l1 : i < l.length := by rw [← HN.out]; exact hlt
        have l2 : i < l'.length := by rw [← HN'.out]; exact hlt
        obtain ⟨b, off, rfl, -, hc⟩ := h.at l1
        obtain ⟨b', off', rfl, -, hc'⟩ := h'.at l2
        have e0 : w.cell? ⟨b, off + i * 2, none⟩ = some (.int .i64 l[i].1) := hc 0 _ rfl
        have e1 : w.cell? ⟨b, off + i * 2 + 1, none⟩ = some (.int .i64 l[i].2) := hc 1 _ rfl
        have d0 : w.cell? ⟨b', off' + i * 2, none⟩ = some (.int .i64 l'[i].1) := hc' 0 _ rfl
        have d1 : w.cell? ⟨b', off' + i * 2 + 1, none⟩ = some (.int .i64 l'[i].2) := hc' 1 _ rfl
        clear hc hc' h h'
        obtain ⟨x, hx⟩ : ∃ x, Hid (x = l[i]) := ⟨_, Lib.hid rfl⟩
        obtain ⟨y, hy⟩ : ∃ y, Hid (y = l'[i]) := ⟨_, Lib.hid rfl⟩
        rw [← hx.out] at e0 e1
        rw [← hy.out] at d0 d1
        go_wp2
        refine wp_region_plan [([0, 1, 2, 3, 4, 5, 6, 7, 8], [])] 26 (by kernel_rfl) (by kernel_rfl) (by simp) ?_
        intro N hN
        simp only [wpSegs, List.map_cons, List.map_nil, List.getD_cons_zero, List.getD_cons_succ]
        go_wp2
        · go_roundg (n - (i + 1) + 1)
          case measure => have := hG.out; omega
          case rel => exact ⟨i + 1, _, by go_num, rfl, by omega, rfl, take_step l1 l2 hP.out (by rw [← hx.out, ← hy.out]; exact Prod.ext ‹_› ‹_›)⟩
        all_goals go_ret
        all_goals exact ⟨by simp only [Act.tmps]; rw [decide_eq_false (ne_at l1 l2 hx hy fun e => by first | exact (‹¬ x.1 = y.1› (by rw [e])) | exact (‹¬ x.2 = y.2› (by rw [e])))]; rfl, _, rfl⟩
      · have hii : ¬ ((i : Int) < n) := by omega
        go_wp2
        go_ret
        refine ⟨?_, m, rfl⟩
        have hP := hP.out
        rw [List.take_of_length_le (by have := HN.out; omega), List.take_of_length_le (by have := HN'.out; omega)] at hP
        rw [decide_eq_true hP]; rfl
  · have hr : decide (l = l') = false := decide_eq_false fun e => hl (by rw [HN.out, HN'.out, e])
    rw [hr]
    have hl' : ¬ ((n : Int) = n') := by omega
    clear hr
    go_enter Tryz.func59, Tryz.ntmps59
    go_wp2
    go_ret
    exact ⟨rfl, 0, rfl⟩
end Go.Proofs.YtofikfkgiblblaaGreatDoor

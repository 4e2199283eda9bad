/- The elements of cells: dots, entries, elements of lists; how they are told by their cells. -/
import Derived.Test.YtheejjifcpjdbaaProg
import Derived.Test.YtheejjifcpjdbaaData
import Derived.Test.YtheejjifcpjdbaaPlan3
import Derived.Deep.LoopGhost
namespace Go.Proofs.Ytheejjifcpjdbaa
set_option linter.unusedVariables false
set_option linter.unusedSimpArgs false
open Go.RowKit Go.Lib Go.Tt

abbrev Dt := Int × Int
abbrev En := Int × Int × ByteArray
abbrev El := Int × Int × Int × ByteArray × Bool
def eInt : Enc Int := ⟨1, fun n => [.int .i64 n], fun _ => rfl, fun x u hu => by simp at hu; subst hu; rfl, by decide⟩
def eStr : Enc ByteArray := ⟨1, fun s => [.string s], fun _ => rfl, fun x u hu => by simp at hu; subst hu; rfl, by decide⟩
def eDt : Enc Dt := ⟨2, fun d => [.int .i64 d.1, .int .i64 d.2], fun _ => rfl, fun x u hu => by simp at hu; rcases hu with rfl | rfl <;> rfl, by decide⟩
def eEn : Enc En := ⟨3, fun d => [.int .i64 d.1, .int .i64 d.2.1, .string d.2.2], fun _ => rfl, fun x u hu => by simp at hu; rcases hu with rfl | rfl | rfl <;> rfl, by decide⟩
def eEl : Enc El := ⟨5, fun d => [.int .i64 d.1, .int .i64 d.2.1, .int .i64 d.2.2.1, .string d.2.2.2.1, .bool d.2.2.2.2], fun _ => rfl, fun x u hu => by simp at hu; rcases hu with rfl | rfl | rfl | rfl | rfl <;> rfl, by decide⟩

theorem i_int : (Try.prog.info? 3).map (fun i => (i.zero, i.size, i.bytes)) = some (some (.int .i64 0), eInt.k, 8) := by kernel_rfl
theorem i_str : (Try.prog.info? 9).map (fun i => (i.zero, i.size, i.bytes)) = some (some (.string ByteArray.empty), eStr.k, 16) := by kernel_rfl
theorem i_dt : (Try.prog.info? 61).map (fun i => (i.zero, i.size, i.bytes)) = some (some (.agg #[.int .i64 0, .int .i64 0]), eDt.k, 16) := by kernel_rfl
theorem i_en : (Try.prog.info? 90).map (fun i => (i.zero, i.size, i.bytes)) = some (some (.agg #[.int .i64 0, .int .i64 0, .string ByteArray.empty]), eEn.k, 32) := by kernel_rfl
theorem i_el : (Try.prog.info? 111).map (fun i => (i.zero, i.size, i.bytes)) = some (some (.agg #[.int .i64 0, .int .i64 0, .int .i64 0, .string ByteArray.empty, .bool false]), eEl.k, 48) := by kernel_rfl

set_option maxRecDepth 100000 in
theorem copyDots_ok {w : World} {a : Option Addr} {n c : Nat} {l : List Dt} (h : RdS w eDt (.slice a n c) l) (hb : l.length * 16 ≤ reachBytes) :
    Calls Try.prog 59 #[.slice a n c] w fun e w' => ∃ a' c', e = .returned (.slice a' n c') ∧ Ow w' (Nw No w w') 61 eDt (.slice a' n c') l ∧ Frm No w w' := by
  obtain rfl := h.facts.1
  have hb' : l.length * 16 ≤ 140737488351232 := hb
  go_enter Try.func59, Try.ntmps59
  go_wp2_with (at_builtin; refine wpList_ap _ rfl (.tmp 3) (.tmp 4) 62 62 rfl 61 _ 16 Try.underlying62 i_dt rfl (Ow.nil _ No _ eDt _) ((h.alloc _).src Try.underlying62) rfl rfl rfl ?_ ?_ ?_)
  · unfold maxLen; simp; omega
  · simp; omega
  intro a' c' w1 o1 f1
  go_wp2
  go_ret
  exact ⟨a', c', rfl, o1.new f1 (by simp), (Frm.alloc No _ _).trans f1⟩

set_option maxRecDepth 100000 in
theorem sameDots_ok {w : World} {a a' : Option Addr} {n c n' c' : Nat} {l l' : List Dt} (h : RdS w eDt (.slice a n c) l) (h' : RdS w eDt (.slice a' n' c') l') :
    Calls Try.prog 51 #[.slice a n c, .slice a' n' c'] w fun e w' => e = .returned (.bool (decide (l = l'))) ∧ ∃ m, w' = w.drewN m := by
  obtain ⟨hn, hc1, hc2, -⟩ := h.facts
  obtain ⟨hn', hc1', hc2', -⟩ := h'.facts
  unfold maxLen at hc2 hc2'
  have HN := Lib.hid hn
  have HN' := Lib.hid hn'
  clear hn hn'
  by_cases hl : n = n'
  · subst hl
    go_enter Try.func51, Try.ntmps51
    go_wp2
    go_loopg [5] (n + 1) (fun g iv wr => ∃ (i m : Nat), iv = .int .i64 i ∧ wr = w.drewN m ∧ i ≤ n ∧ g = n - i + 1 ∧ l.take i = l'.take i)
    case atStart => exact ⟨0, 0, rfl, rfl, Nat.zero_le _, by omega, rfl⟩
    case round =>
      obtain ⟨i, m, rfl, rfl, hi, hg, hp⟩ := hrel
      have hG := Lib.hid hg
      have hP := Lib.hid hp
      clear hg hp
      by_cases hlt : i < n
      · have l1 : i < l.length := by rw [← HN.out]; exact hlt
        have l2 : i < l'.length := by rw [← HN'.out]; exact hlt
        obtain ⟨b, off, rfl, -, hc⟩ := h.at l1
        obtain ⟨b', off', rfl, -, hc'⟩ := h'.at l2
        have e0 : w.cell? ⟨b, off + i * 2, none⟩ = some (.int .i64 l[i].1) := hc 0 _ rfl
        have e1 : w.cell? ⟨b, off + i * 2 + 1, none⟩ = some (.int .i64 l[i].2) := hc 1 _ rfl
        have d0 : w.cell? ⟨b', off' + i * 2, none⟩ = some (.int .i64 l'[i].1) := hc' 0 _ rfl
        have d1 : w.cell? ⟨b', off' + i * 2 + 1, none⟩ = some (.int .i64 l'[i].2) := hc' 1 _ rfl
        clear hc hc' h h'
        obtain ⟨x, hx⟩ : ∃ x, Hid (x = l[i]) := ⟨_, Lib.hid rfl⟩
        obtain ⟨y, hy⟩ : ∃ y, Hid (y = l'[i]) := ⟨_, Lib.hid rfl⟩
        rw [← hx.out] at e0 e1
        rw [← hy.out] at d0 d1
        go_wp2
        refine wp_region_plan [([0, 1, 2, 3, 4, 5, 6, 7, 8], [])] 26 (by kernel_rfl) (by kernel_rfl) (by simp) ?_
        intro N hN
        simp only [wpSegs, List.map_cons, List.map_nil, List.getD_cons_zero, List.getD_cons_succ]
        go_wp2
        · go_roundg (n - (i + 1) + 1)
          case measure => have := hG.out; omega
          case rel => exact ⟨i + 1, _, by go_num, rfl, by omega, rfl, take_step l1 l2 hP.out (by rw [← hx.out, ← hy.out]; exact Prod.ext ‹_› ‹_›)⟩
        all_goals go_ret
        all_goals exact ⟨by simp only [Act.tmps]; rw [decide_eq_false (ne_at l1 l2 hx hy fun e => by first | exact (‹¬ x.1 = y.1› (by rw [e])) | exact (‹¬ x.2 = y.2› (by rw [e])))]; rfl, _, rfl⟩
      · have hii : ¬ ((i : Int) < n) := by omega
        go_wp2
        go_ret
        refine ⟨?_, m, rfl⟩
        have hP := hP.out
        rw [List.take_of_length_le (by have := HN.out; omega), List.take_of_length_le (by have := HN'.out; omega)] at hP
        rw [decide_eq_true hP]; rfl
  · have hr : decide (l = l') = false := decide_eq_false fun e => hl (by rw [HN.out, HN'.out, e])
    rw [hr]
    have hl' : ¬ ((n : Int) = n') := by omega
    clear hr
    go_enter Try.func51, Try.ntmps51
    go_wp2
    go_ret
    exact ⟨rfl, 0, rfl⟩
end Go.Proofs.Ytheejjifcpjdbaa

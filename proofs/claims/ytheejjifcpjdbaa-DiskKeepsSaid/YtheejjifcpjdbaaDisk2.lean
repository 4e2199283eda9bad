/- The contracts of package disk, second part: Sync, Crash. -/
import Derived.Test.YtheejjifcpjdbaaDisk
import Derived.Test.YtheejjifcpjdbaaPlan3
namespace Go.Proofs.Ytheejjifcpjdbaa
set_option linter.unusedVariables false
set_option linter.unusedSimpArgs false
open Go.RowKit Go.Lib Go.Tt

set_option maxRecDepth 100000 in
set_option maxHeartbeats 800000 in
/-- Sync, the walk. -/
theorem sync_walk {w : World} {F : Nat → Prop} {b : Nat} {d : DiskD} {kp : Option Addr} {kc : Nat} {dp : Option Addr} {dc : Nat} (h : DiskAt w F b d kp kc dp dc) (hd : d.down = false) :
    Calls Try.prog 27 #[.pointer (some ⟨b, 0, none⟩)] w fun e w' => e = .returned (.int .i64 0) ∧
      ∃ w0 a' c' w1, (∃ n, w0 = w.drewN n) ∧ w1.ownsRow 0 5 1 (.slice a' (d.kept.length + d.waits.length) c') (d.kept.length + d.waits.length) (bcs d.kept ++ bcs d.waits) ∧ w0.grownBy w1 (Value.slice kp d.kept.length kc).ownBlock ∧
      ((Value.slice a' (d.kept.length + d.waits.length) c').ownBlock = (Value.slice kp d.kept.length kc).ownBlock ∨ (Value.slice a' (d.kept.length + d.waits.length) c').ownBlock = some w0.heap.size) ∧
      ∃ w2, (∃ n, w2 = w1.drewN n) ∧ w' = (w2.setCell ⟨b, 2, none⟩ (.slice a' (d.kept.length + d.waits.length) c')).setCell ⟨b, 3, none⟩ (.slice none 0 0) := by
  have h1 : w.cell? ⟨b, 1, none⟩ = some (.bool false) := by rw [h.c1, hd]
  have h2 := h.c2
  have h3 := h.c3
  have f2 := h.fr 2
  have f3 := h.fr 3
  have b0 := h.s0
  have b1 := h.s1
  have b2 := h.room
  have HD := Lib.hid hd
  clear hd
  have hk := Lib.hid h.kO.own.drew
  have hw := Lib.hid h.wO.own.drew
  have hc1 := Lib.hid (show d.kept.length + d.waits.length ≤ maxLen by unfold maxLen; omega)
  have hc2 := Lib.hid (show (d.kept.length + d.waits.length) * 1 ≤ 140737488355328 by omega)
  go_enter Try.func27, Try.ntmps27
  go_wp2_with (first | (go_at_call 58; refine (up_up _ _ h1).mono ?_; rintro e w' ⟨rfl, rfl⟩))
  go_region_law (refine step_app rfl (.tmp 14) (.tmp 18) 47 47 rfl 5 (.int .u8 0) 1 1 Try.underlying47 Try.info_u8 rfl (v := .slice kp d.kept.length kc) hk.out (Src.own _ Try.underlying47 hw.out (bcs_one _)) (by simp [Act.eval]) (by simp [Act.eval]) hc1.out hc2.out (Nat.zero_le _) ?_; intro a' c' w1 o1 g1 at1; have k2 := (grown_cell g1 (p := ⟨b, 2, none⟩) h.lt h.kne).trans h2; have k3 := (grown_cell g1 (p := ⟨b, 3, none⟩) h.lt h.kne).trans h3; have e2 := (grown_frozen g1 (p := ⟨b, 2, none⟩) h.lt h.kne).trans f2; have e3 := (grown_frozen g1 (p := ⟨b, 3, none⟩) h.lt h.kne).trans f3)
  all_goals
    go_wp2
    go_ret
    exact ⟨rfl, w.drew, a', c', w1, ⟨1, rfl⟩, o1, g1, at1, w1, ⟨0, rfl⟩, rfl⟩

set_option maxRecDepth 100000 in
set_option maxHeartbeats 800000 in
/-- Crash, the walk. -/
theorem crash_walk {w : World} {F : Nat → Prop} {b : Nat} {d : DiskD} {kp : Option Addr} {kc : Nat} {dp : Option Addr} {dc : Nat} (h : DiskAt w F b d kp kc dp dc) (hd : d.down = false) (keep : Int) (hk0 : 0 ≤ keep) (m : Nat) (hm : (m : Int) = min keep d.waits.length) :
    Calls Try.prog 29 #[.pointer (some ⟨b, 0, none⟩), .int .i64 keep] w fun e w' => e = .returned (.int .i64 0) ∧
      ∃ w0 a' c' w1, (∃ n, w0 = w.drewN n) ∧ w1.ownsRow 0 5 1 (.slice a' (d.kept.length + m) c') (d.kept.length + m) (bcs d.kept ++ bcs (d.waits.take m)) ∧ w0.grownBy w1 (Value.slice kp d.kept.length kc).ownBlock ∧
      ((Value.slice a' (d.kept.length + m) c').ownBlock = (Value.slice kp d.kept.length kc).ownBlock ∨ (Value.slice a' (d.kept.length + m) c').ownBlock = some w0.heap.size) ∧
      w' = (((w1.setCell ⟨b, 2, none⟩ (.slice a' (d.kept.length + m) c')).setCell ⟨b, 3, none⟩ (.slice none 0 0))).setCell ⟨b, 1, none⟩ (.bool true) := by
  have h1 : w.cell? ⟨b, 1, none⟩ = some (.bool false) := by rw [h.c1, hd]
  have h2 := h.c2
  have h3 := h.c3
  have f1 := h.fr 1
  have f2 := h.fr 2
  have f3 := h.fr 3
  have b0 := h.s0
  have b1 := h.s1
  have b2 := h.room
  have hml : m ≤ d.waits.length := by omega
  have HD := Lib.hid hd
  clear hd
  have hk := Lib.hid h.kO.own.drew
  have hw := Lib.hid (show w.drew.ownsRow 0 5 1 (.slice dp m dc) m (bcs (d.waits.take m)) by have := own_take h.wO.own.drew hml; rwa [Nat.mul_one, bcs, ← List.map_take] at this)
  have hc1 := Lib.hid (show d.kept.length + m ≤ maxLen by unfold maxLen; omega)
  have hc2 := Lib.hid (show (d.kept.length + m) * 1 ≤ 140737488355328 by omega)
  have hcap : (m : Int) ≤ dc := by have := own_cap h.wO.own; omega
  have hmn : (if (d.waits.length : Int) < keep then (d.waits.length : Int) else keep) = m := by split <;> omega
  clear hm
  go_enter Try.func29, Try.ntmps29
  go_wp2_with (first | (go_at_call 58; refine (up_up _ _ h1).mono ?_; rintro e w' ⟨rfl, rfl⟩))
  refine wp_region_plan [([0, 1, 2, 3, 4, 5, 6, 7, 8, 9, 10, 11, 12, 13, 14, 15, 16], [9, 5]), ([17, 18, 19, 20, 21, 22, 23, 24], [])] 39 (by kernel_rfl) (by kernel_rfl) (by simp) ?_
  intro N hN
  simp only [wpSegs, List.map_cons, List.map_nil, List.getD_cons_zero, List.getD_cons_succ]
  go_wp2
  refine ⟨again_cons (again_of rfl rfl ?_) (again_cons (again_of rfl rfl ?_) again_nil), ?_⟩
  · go_simp
  · go_simp
  go_wp2_with (at_builtin; refine wpList_app _ rfl (.tmp 18) (.tmp 30) 47 47 rfl 5 (.int .u8 0) 1 1 Try.underlying47 Try.info_u8 rfl (v := .slice kp d.kept.length kc) hk.out (Src.own _ Try.underlying47 hw.out (bcs_one _)) rfl rfl hc1.out hc2.out (Nat.zero_le _) ?_)
  intro a' c' w1 o1 g1 at1
  have k2 := (grown_cell g1 (p := ⟨b, 2, none⟩) h.lt h.kne).trans h2
  have k3 := (grown_cell g1 (p := ⟨b, 3, none⟩) h.lt h.kne).trans h3
  have k1 := (grown_cell g1 (p := ⟨b, 1, none⟩) h.lt h.kne).trans h1
  have e1 := (grown_frozen g1 (p := ⟨b, 1, none⟩) h.lt h.kne).trans f1
  have e2 := (grown_frozen g1 (p := ⟨b, 2, none⟩) h.lt h.kne).trans f2
  have e3 := (grown_frozen g1 (p := ⟨b, 3, none⟩) h.lt h.kne).trans f3
  go_wp2
  go_ret
  exact ⟨rfl, w.drew, a', c', w1, ⟨1, rfl⟩, o1, g1, at1, rfl⟩
end Go.Proofs.Ytheejjifcpjdbaa

/- The contracts of package disk: Cut; the reference's disk (a struct of texts). -/
import Derived.Test.YtheejjifcpjdbaaDisk4
namespace Go.Proofs.Ytheejjifcpjdbaa
set_option linter.unusedVariables false
set_option linter.unusedSimpArgs false
open Go.RowKit Go.Lib Go.Tt

theorem ownBlock_len (a : Option Addr) (n m c k : Nat) : (Value.slice a n c).ownBlock = (Value.slice a m k).ownBlock := by cases a <;> rfl
theorem bcs_take (l : List UInt8) (k : Nat) : (bcs l).take k = bcs (l.take k) := by simp [bcs, List.map_take]
set_option maxRecDepth 100000 in
theorem cut_ok {w : World} {F : Nat → Prop} {b : Nat} {d : DiskD} (h : DiskIs w F b d) (hd : d.down = false) (k : Nat) (hk : k ≤ d.kept.length) (hw : d.waits = []) :
    Calls Try.prog 33 #[.pointer (some ⟨b, 0, none⟩), .int .i64 k] w fun e w' => e = .returned (.int .i64 0) ∧ DiskIs w' F b { d with kept := d.kept.take k } ∧ Frm F w w' ∧ w'.heap.size = w.heap.size := by
  obtain ⟨kp, kc, dp, dc, h⟩ := h
  have key : Calls Try.prog 33 #[.pointer (some ⟨b, 0, none⟩), .int .i64 k] w fun e w' => e = .returned (.int .i64 0) ∧ w' = w.setCell ⟨b, 2, none⟩ (.slice kp k kc) := by
    have h1 : w.cell? ⟨b, 1, none⟩ = some (.bool false) := by rw [h.c1, hd]
    have h2 := h.c2
    have h3 : w.cell? ⟨b, 3, none⟩ = some (.slice dp 0 dc) := by rw [h.c3, hw]; rfl
    have f2 := h.fr 2
    have hkc : k ≤ kc := by have := own_cap h.kO.own; omega
    have g1 : ¬ (k : Int) < 0 := by omega
    have g2 : ¬ (d.kept.length : Int) < k := by omega
    clear hd hw
    go_enter Try.func33, Try.ntmps33
    go_wp2_with (first | (go_at_call 58; refine (up_up _ _ h1).mono ?_; rintro e w' ⟨rfl, rfl⟩))
    go_ret
    exact ⟨rfl, rfl⟩
  refine key.mono ?_
  rintro e w' ⟨rfl, rfl⟩
  have hl : (d.kept.take k).length = k := by rw [List.length_take]; omega
  have hr := h.room
  refine ⟨rfl, ⟨kp, kc, dp, dc, ?_, h.foot, ⟨?_, ?_⟩, ⟨own_setCell h.wO.own h.dne _, h.wO.foot⟩, ?_, h.s0, h.s1, ?_⟩, Frm.setCell _ _ _ h.foot, by simp⟩
  · rw [obj_setCell h.blk]; simp [-List.length_take, hl]
  · have := own_setCell (own_take h.kO.own hk) (b := b) (i := 2) (by rw [ownBlock_len kp k d.kept.length kc kc]; exact h.kne) (.slice kp k kc)
    rw [Nat.mul_one, bcs_take] at this
    dsimp only
    rw [hl]
    exact this
  · intro g hg; exact h.kO.foot g (by rw [ownBlock_len kp d.kept.length (d.kept.take k).length kc kc]; exact hg)
  · intro g hg; exact h.apart g (by rw [ownBlock_len kp d.kept.length (d.kept.take k).length kc kc]; exact hg)
  · dsimp only; rw [hl]; omega
set_option maxRecDepth 100000 in
theorem cut_bad {w : World} {F : Nat → Prop} {b : Nat} {d : DiskD} (h : DiskIs w F b d) (hd : d.down = false) (k : Int) (hk : k < 0 ∨ d.kept.length < k ∨ 0 < d.waits.length) :
    Calls Try.prog 33 #[.pointer (some ⟨b, 0, none⟩), .int .i64 k] w fun e w' => e = .returned (.int .i64 2000) ∧ w = w' := by
  obtain ⟨kp, kc, dp, dc, h⟩ := h
  have h1 : w.cell? ⟨b, 1, none⟩ = some (.bool false) := by rw [h.c1, hd]
  have h2 := h.c2
  have h3 := h.c3
  clear hd
  by_cases g1 : k < 0
  · clear hk
    go_enter Try.func33, Try.ntmps33
    go_wp2_with (first | (go_at_call 58; refine (up_up _ _ h1).mono ?_; rintro e w' ⟨rfl, rfl⟩))
    go_ret
    exact ⟨rfl, rfl⟩
  by_cases g2 : (d.kept.length : Int) < k
  · clear hk
    go_enter Try.func33, Try.ntmps33
    go_wp2_with (first | (go_at_call 58; refine (up_up _ _ h1).mono ?_; rintro e w' ⟨rfl, rfl⟩))
    go_ret
    exact ⟨rfl, rfl⟩
  have g3 : 0 < d.waits.length := by omega
  clear hk
  go_enter Try.func33, Try.ntmps33
  go_wp2_with (first | (go_at_call 58; refine (up_up _ _ h1).mono ?_; rintro e w' ⟨rfl, rfl⟩))
  go_ret
  exact ⟨rfl, rfl⟩
theorem cut_down {w : World} {F : Nat → Prop} {b : Nat} {d : DiskD} (h : DiskIs w F b d) (hd : d.down = true) (k : Int) :
    Calls Try.prog 33 #[.pointer (some ⟨b, 0, none⟩), .int .i64 k] w fun e w' => e = .returned (.int .i64 2002) ∧ w = w' := by
  obtain ⟨kp, kc, dp, dc, h⟩ := h
  have h1 : w.cell? ⟨b, 1, none⟩ = some (.bool true) := by rw [h.c1, hd]
  clear hd
  go_enter Try.func33, Try.ntmps33
  go_wp2_with (first | (go_at_call 58; refine (up_down _ _ h1).mono ?_; rintro e w' ⟨rfl, rfl⟩))
  go_ret
  exact ⟨rfl, rfl⟩
theorem num_any (n : Int) (w : World) : Calls Try.prog 23 #[.int .i64 n] w fun e w' => e = .returned (.int .i64 n) ∧ w = w' := by
  go_enter Try.func23, Try.ntmps23
  go_wp2
  go_ret
  exact ⟨rfl, rfl⟩
end Go.Proofs.Ytheejjifcpjdbaa

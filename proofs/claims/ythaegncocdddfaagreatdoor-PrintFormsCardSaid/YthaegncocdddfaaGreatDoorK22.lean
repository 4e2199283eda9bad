/- Merged: Rep4. -/
import Derived.Test.YthaegncocdddfaaGreatDoorK21
/- package strings' Replacer, walked: buildOnce, and sync.Once ahead of it. -/
namespace Go.Proofs.YthaegncocdddfaaGreatDoor
set_option linter.unusedVariables false
set_option linter.unusedSimpArgs false
set_option linter.unusedVariables false
set_option linter.unusedSimpArgs false
open Go.RowKit Go.Lib Go.Tt
set_option maxRecDepth 100000 in
theorem buildOnce_ok {w : World} {b : Nat} {x m : Int} {r : Value} {a : Option Addr} {c : Nat} (hb : w.heap[b]? = some (.cells (rcs x m r (.slice a 6 c)) 178 (0, 0))) (hr : RdS w eStr (.slice a 6 c) rp6) :
    Calls Tryz.prog 125 #[.pointer (some ⟨b, 0, none⟩)] w fun e w' => e = .returned (.tuple #[]) ∧ ∃ rb, w'.heap[b]? = some (.cells (rcs x m (.iface 215 (.pointer (some ⟨rb, 0, none⟩))) (.slice none 0 0)) 178 (0, 0)) ∧ BsP w' w.heap.size rb [10, 92, 34] ∧ Frm (fun k => k = b) w w' := by
  have HB := build_ok hb hr
  have nb := lt_of_block hb
  go_enter Tryz.func125, Tryz.ntmps125
  go_wp2_with (fail)
  refine HB.mono ?_
  rintro e w1 ⟨rb, rfl, P1, f1⟩
  have B1 := f1.obj hb id
  have d3 : w1.cell? ⟨b, 3, none⟩ = some r := obj_cell B1 3
  have d4 : w1.cell? ⟨b, 4, none⟩ = some (.slice a 6 c) := obj_cell B1 4
  have z1 := obj_frz B1
  have nb1 := lt_of_block B1
  clear HB
  go_wp2_with (fail)
  go_end0
  have B2 := obj_setCell (i := 4) (obj_setCell (i := 3) B1 (.iface 215 (.pointer (some ⟨rb, 0, none⟩)))) (.slice none 0 0)
  have F2 : Frm (fun k => k = b) w1 ((w1.setCell ⟨b, 3, none⟩ (.iface 215 (.pointer (some ⟨rb, 0, none⟩)))).setCell ⟨b, 4, none⟩ (.slice none 0 0)) := ((Frm.refl (fun k => k = b) w1).sc rfl _ _).sc rfl _ _
  exact ⟨rfl, rb, by simpa [rcs] using B2, P1.frm F2 fun k hk e => by omega, (f1.mono fun k _ h => h.elim).trans F2⟩
set_option maxRecDepth 100000 in
set_option maxHeartbeats 1600000 in
theorem slow_ok {w : World} {b : Nat} {r : Value} {a : Option Addr} {c : Nat} (hb : w.heap[b]? = some (.cells (rcs 0 0 r (.slice a 6 c)) 178 (0, 0))) (hr : RdS w eStr (.slice a 6 c) rp6) (hd : ∀ g, sblk (.slice a 6 c) = some g → g ≠ b) :
    Calls Tryz.prog 134 #[.pointer (some ⟨b, 0, none⟩), .func (.func 125) #[.pointer (some ⟨b, 0, none⟩)] #[]] w fun e w' => e = .returned (.tuple #[]) ∧ ∃ rb, w'.heap[b]? = some (.cells (rcs 1 0 (.iface 215 (.pointer (some ⟨rb, 0, none⟩))) (.slice none 0 0)) 178 (0, 0)) ∧ BsP w' w.heap.size rb [10, 92, 34] ∧ Frm (fun k => k = b) w w' := by
  have c0 : w.cell? ⟨b, 0, none⟩ = some (.int .u32 0) := obj_cell hb 0
  have c1 : w.cell? ⟨b, 1, none⟩ = some (.int .i32 0) := obj_cell hb 1
  have z0 := obj_frz hb
  have nb := lt_of_block hb
  have B1 := obj_setCell (i := 1) hb (.int .i32 1)
  have e0 : (w.setCell ⟨b, 1, none⟩ (.int .i32 1)).cell? ⟨b, 0, none⟩ = some (.int .u32 0) := obj_cell B1 0
  have F1 : Frm (fun k => k = b) w (w.setCell ⟨b, 1, none⟩ (.int .i32 1)) := (Frm.refl (fun k => k = b) w).sc rfl _ _
  have R1 := hr.frm F1 fun g hg e => hd g hg e
  have HB := buildOnce_ok (x := 0) (m := 1) (r := r) (by simpa [rcs] using B1) R1
  have hnot : ∀ (x : Bool) (w : World), (Op.unary .not (.bool x)).run Tryz.prog w = .ok (.bool (!x)) w := fun _ _ => rfl
  have HL := lock_free ⟨b, 1, none⟩ w c1 (z0 1)
  have HLD := bool_load ⟨b, 0, none⟩ 0 (w.setCell ⟨b, 1, none⟩ (.int .i32 1)) e0
  go_enter_defers Tryz.func134, Tryz.ntmps134
  go_wp2_with (fail)
  refine HL.mono ?_
  rintro e w1 ⟨rfl, rfl⟩
  go_wp2_with (fail)
  refine HLD.mono ?_
  rintro e w1 ⟨rfl, rfl⟩
  go_wp2_with (fail)
  refine HB.mono ?_
  rintro e w2 ⟨rfl, rb, B2, P2, f2⟩
  go_wp2_with (fail)
  have d0 : w2.cell? ⟨b, 0, none⟩ = some (.int .u32 0) := obj_cell B2 0
  have y2 := obj_frz B2
  have B3 : (w2.drew.setCell ⟨b, 0, none⟩ (.int .u32 1)).heap[b]? = some (.cells (rcs 1 1 (.iface 215 (.pointer (some ⟨rb, 0, none⟩))) (.slice none 0 0)) 178 (0, 0)) := by
    have := obj_setCell (w := w2.drew) (i := 0) B2 (.int .u32 1)
    simpa [rcs] using this
  have d1 : (w2.drew.setCell ⟨b, 0, none⟩ (.int .u32 1)).cell? ⟨b, 1, none⟩ = some (.int .i32 1) := obj_cell B3 1
  have y3 := obj_frz B3
  have B4 : ((w2.drew.setCell ⟨b, 0, none⟩ (.int .u32 1)).setCell ⟨b, 1, none⟩ (.int .i32 0)).heap[b]? = some (.cells (rcs 1 0 (.iface 215 (.pointer (some ⟨rb, 0, none⟩))) (.slice none 0 0)) 178 (0, 0)) := by
    have := obj_setCell (i := 1) B3 (.int .i32 0)
    simpa [rcs] using this
  have F4 : Frm (fun k => k = b) w2 ((w2.drew.setCell ⟨b, 0, none⟩ (.int .u32 1)).setCell ⟨b, 1, none⟩ (.int .i32 0)) := ((Frm.drew (fun k => k = b) w2).sc rfl _ _).sc rfl _ _
  refine leaves_cons (f := 146) (args := #[.pointer (some ⟨b, 0, none⟩), .bool true]) (by simp) (by simp [go_sem]) ?_
  refine (store_deferred ⟨b, 0, none⟩ (.int .u32 0) .returning _ d0 (y2 0)).mono ?_
  rintro e u' w'' ⟨rfl, rfl, rfl⟩
  refine leaves_cons (f := 145) (args := #[.pointer (some ⟨b, 1, none⟩)]) (by simp [settle]) (by simp [go_sem]) ?_
  refine (unlock_deferred ⟨b, 1, none⟩ _ _ d1 (y3 1)).mono ?_
  rintro e u' w'' ⟨rfl, rfl, rfl⟩
  simp [Leaves, settle, results, Tryz.results134]
  have P4 := P2.frm F4 fun k hk e => by rw [World.size_setCell] at hk; omega
  rw [World.size_setCell] at P4
  exact ⟨rb, B4, P4, (F1.trans f2).trans F4⟩
/-- Replace's way to the replacer: it is built but once. -/
theorem do_ok {w : World} {b : Nat} {r : Value} {a : Option Addr} {c : Nat} (hb : w.heap[b]? = some (.cells (rcs 0 0 r (.slice a 6 c)) 178 (0, 0))) (hr : RdS w eStr (.slice a 6 c) rp6) (hd : ∀ g, sblk (.slice a 6 c) = some g → g ≠ b) :
    Calls Tryz.prog 124 #[.pointer (some ⟨b, 0, none⟩), .func (.func 125) #[.pointer (some ⟨b, 0, none⟩)] #[]] w fun e w' => e = .returned (.tuple #[]) ∧ ∃ rb, w'.heap[b]? = some (.cells (rcs 1 0 (.iface 215 (.pointer (some ⟨rb, 0, none⟩))) (.slice none 0 0)) 178 (0, 0)) ∧ BsP w' w.heap.size rb [10, 92, 34] ∧ Frm (fun k => k = b) w w' := by
  have c0 : w.cell? ⟨b, 0, none⟩ = some (.int .u32 0) := obj_cell hb 0
  have HLD := bool_load ⟨b, 0, none⟩ 0 w c0
  have HS := slow_ok hb hr hd
  have hnot : ∀ (x : Bool) (w : World), (Op.unary .not (.bool x)).run Tryz.prog w = .ok (.bool (!x)) w := fun _ _ => rfl
  go_enter Tryz.func124, Tryz.ntmps124
  go_wp2_with (fail)
  refine HLD.mono ?_
  rintro e w1 ⟨rfl, rfl⟩
  go_wp2_with (fail)
  refine HS.mono ?_
  rintro e w1 ⟨rfl, rb, B2, P2, f2⟩
  go_wp2_with (fail)
  go_end0
  exact ⟨rfl, rb, B2, P2, f2⟩
end Go.Proofs.YthaegncocdddfaaGreatDoor

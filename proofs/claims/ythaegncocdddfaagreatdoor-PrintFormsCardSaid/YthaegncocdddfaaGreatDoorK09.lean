/- Merged: DocW3 DocW4. -/
import Derived.Test.YthaegncocdddfaaGreatDoorK08
/- The parser's steps, walked: want, name, known. -/
namespace Go.Proofs.YthaegncocdddfaaGreatDoor
set_option linter.unusedVariables false
set_option linter.unusedSimpArgs false
set_option linter.unusedVariables false
set_option linter.unusedSimpArgs false
open Go.RowKit Go.Lib Go.Tt
set_option maxHeartbeats 1000000 in
set_option maxRecDepth 100000 in
theorem want_ok {w : World} {pb : Nat} {p : PS} (h : PAt w pb p) (s : ByteArray) :
    Calls Tryz.prog 69 #[.pointer (some ⟨pb, 0, none⟩), .string s] w fun e w' => e = .returned (.tuple #[]) ∧ PAt w' pb (p.want s) ∧ Frm (fun k => k = pb) w w' := by
  have HM := pmark_ok h s
  have HT := Lib.hid (fun W (f : Frm No w W) => take_ok (h.no f))
  have hW : Hid (p.want s = ⟨p.adv.ts, p.adv.bad || !p.mark s⟩) := Lib.hid rfl
  clear h
  obtain ⟨B, hB⟩ : ∃ B : Bool, Hid (p.adv.bad = B) := ⟨_, Lib.hid rfl⟩
  generalize p.mark s = M at HM hW
  rw [hB.out] at hW
  rw [hW.out]
  go_enter Tryz.func69, Tryz.ntmps69
  go_wp2_with (fail)
  refine HM.mono ?_
  rintro e w1 ⟨rfl, f1⟩
  go_wp2_with (fail)
  refine (HT.out _ f1).mono ?_
  rintro e w2 ⟨rfl, ⟨a, n, c, hb, hr⟩, f2⟩
  rw [hB.out] at hb
  clear HM HT hW
  have q1 : w2.cell? ⟨pb, 1, none⟩ = some (.bool B) := obj_cell hb 1
  have nb := lt_of_block hb
  have zb := obj_frz hb
  have F2 : Frm (fun k => k = pb) w w2 := (f1.mono (G := fun k => k = pb) fun _ _ h => h.elim).trans f2
  have PB := PAt.set hb hr
  clear f1 f2
  cases B <;> cases M <;> go_wp2 <;> go_end0 <;> exact ⟨rfl, PB _, F2.sc rfl _ _⟩
set_option maxHeartbeats 1000000 in
set_option maxRecDepth 100000 in
theorem pname_ok {w : World} {pb : Nat} {p : PS} (h : PAt w pb p) :
    Calls Tryz.prog 37 #[.pointer (some ⟨pb, 0, none⟩)] w fun e w' => e = .returned (.string p.nameT) ∧ PAt w' pb p.nameS ∧ Frm (fun k => k = pb) w w' := by
  have HT := take_ok h
  have hW : Hid (p.nameS = ⟨p.adv.ts, p.adv.bad || !decide (p.peek.kind = 0)⟩) := Lib.hid rfl
  have hX : Hid (p.nameT = p.peek.text) := Lib.hid rfl
  clear h
  unfold tval at HT
  obtain ⟨D, hD, hk⟩ : ∃ D : Bool, Hid (decide (p.peek.kind = 0) = D) ∧ (p.peek.kind != 0) = !D := ⟨_, Lib.hid rfl, by by_cases h : p.peek.kind = 0 <;> simp [h]⟩
  obtain ⟨B, hB⟩ : ∃ B : Bool, Hid (p.adv.bad = B) := ⟨_, Lib.hid rfl⟩
  rw [hD.out, hB.out] at hW
  rw [hW.out, hX.out]
  go_enter Tryz.func37, Tryz.ntmps37
  go_wp2_with (fail)
  refine HT.mono ?_
  rintro e w2 ⟨rfl, ⟨a, n, c, hb, hr⟩, f2⟩
  rw [hB.out] at hb
  clear HT hW
  have q1 : w2.cell? ⟨pb, 1, none⟩ = some (.bool B) := obj_cell hb 1
  have nb := lt_of_block hb
  have zb := obj_frz hb
  have PB := PAt.set hb hr
  cases B <;> cases D <;> simp only [Bool.not_true, Bool.not_false] at hk <;> go_wp2 <;> go_ret <;> exact ⟨rfl, (PB _).no (Frm.alloc No _ _), ((f2.sc rfl _ _).al _)⟩
set_option maxHeartbeats 1000000 in
set_option maxRecDepth 100000 in
theorem known_ok {w : World} {pb : Nat} {p : PS} (h : PAt w pb p) (s : ByteArray) :
    Calls Tryz.prog 41 #[.pointer (some ⟨pb, 0, none⟩), .string s] w fun e w' => e = .returned (.tuple #[]) ∧ PAt w' pb (p.known s) ∧ Frm (fun k => k = pb) w w' := by
  have HT := pname_ok h
  have hW : Hid (p.known s = ⟨p.nameS.ts, !eqB p.nameT s || p.nameS.bad⟩) := Lib.hid rfl
  clear h
  have hte := tl_eq p.nameT s
  obtain ⟨D, hD⟩ : ∃ D : Bool, Hid (eqB p.nameT s = D) := ⟨_, Lib.hid rfl⟩
  obtain ⟨B, hB⟩ : ∃ B : Bool, Hid (p.nameS.bad = B) := ⟨_, Lib.hid rfl⟩
  rw [hD.out] at hte
  rw [hD.out, hB.out] at hW
  rw [hW.out]
  go_enter Tryz.func41, Tryz.ntmps41
  go_wp2_with (fail)
  refine HT.mono ?_
  rintro e w2 ⟨rfl, ⟨a, n, c, hb, hr⟩, f2⟩
  rw [hB.out] at hb
  clear HT hW
  have q1 : w2.cell? ⟨pb, 1, none⟩ = some (.bool B) := obj_cell hb 1
  have nb := lt_of_block hb
  have zb := obj_frz hb
  have PB := PAt.set hb hr
  cases B <;> cases D <;> go_wp2 <;> go_end0 <;> exact ⟨rfl, PB _, f2.sc rfl _ _⟩
end Go.Proofs.YthaegncocdddfaaGreatDoor

/- The parser's steps, walked: value (printed by gen_value.py). -/
namespace Go.Proofs.YthaegncocdddfaaGreatDoor
set_option linter.unusedVariables false
set_option linter.unusedSimpArgs false
open Go.RowKit Go.Lib Go.Tt
def eVl : Enc Vl := ⟨3, fun t => [.int .i64 t.kind, .int .i64 t.int, .string t.text], fun _ => rfl, fun x u hu => by simp at hu; rcases hu with rfl | rfl | rfl <;> rfl, by decide⟩
def vval (t : Vl) : Value := .agg #[.int .i64 t.kind, .int .i64 t.int, .string t.text]
theorem tl_lit (a : ByteArray) (l : List UInt8) : (a.toList == l) = eqB a ⟨l.toArray⟩ := by rw [ByteArray.toList_eq]; rfl
set_option maxHeartbeats 1000000 in
set_option maxRecDepth 100000 in
theorem value_int {w : World} {pb : Nat} {p : PS} (h : PAt w pb p) (k1 : p.peek.kind = 1) :
    Calls Tryz.prog 107 #[.pointer (some ⟨pb, 0, none⟩)] w fun e w' => e = .returned (vval p.value.1) ∧ PAt w' pb p.value.2 ∧ Frm (fun k => k = pb) w w' := by
  have hV : Hid (p.value = (⟨0, p.peek.int, noTx⟩, p.adv)) := Lib.hid (by unfold PS.value; simp only; rw [if_pos k1])
  have HT := Lib.hid (fun W (f : Frm No w W) => take_ok (h.no f))
  have nb := h.lt
  rw [hV.out]
  have b1 : (p.peek.kind == 1) = true := by simp [k1]
  clear h hV k1
  unfold tval at HT
  have B0 := heap_alloc_new w (.cells #[.int .i64 0, .int .i64 0, .string ⟨#[]⟩] 55 (0, 0))
  have F0 : Frm No w (w.alloc (.cells #[.int .i64 0, .int .i64 0, .string ⟨#[]⟩] 55 (0, 0))) := (Frm.refl No w).al _
  have n0 : w.heap.size < (w.alloc (.cells #[.int .i64 0, .int .i64 0, .string ⟨#[]⟩] 55 (0, 0))).heap.size := lt_of_block B0
  go_enter Tryz.func107, Tryz.ntmps107
  go_wp2_with (fail)
  refine (HT.out _ F0).mono ?_
  rintro e w1 ⟨rfl, P1, f1⟩
  have B1 := f1.obj B0 (by omega)
  have F1 := (F0.mono (G := fun k => k = pb) fun _ _ h => h.elim).trans f1
  have n1 := lt_of_block B1
  clear HT B0 F0 f1
  go_wp2_with (refine wpList_sto _ rfl (.tmp 2) (.tmp 12) 55 rfl (al_old B1) (by kernel_rfl) (by rfl) (eVl.one ⟨0, p.peek.int, noTx⟩) rfl rfl ?_)
  intro w2 B2 f2 z2
  have t0 : w2.cell? ⟨w.heap.size, 0, none⟩ = some (.int .i64 (Vl.kind ⟨0, p.peek.int, noTx⟩)) := obj_cell B2 0
  have t1 : w2.cell? ⟨w.heap.size, 1, none⟩ = some (.int .i64 (Vl.int ⟨0, p.peek.int, noTx⟩)) := obj_cell B2 1
  have t2 : w2.cell? ⟨w.heap.size, 2, none⟩ = some (.string (Vl.text ⟨0, p.peek.int, noTx⟩)) := obj_cell B2 2
  go_wp2
  refine bodyPost_ret (v := vval ⟨0, p.peek.int, noTx⟩) (by simp [results, Tryz.results107, go_sem, vval, *]) rfl ?_
  exact ⟨rfl, (P1.no (Frm.alloc No _ _)).frm f2 (fun e => by omega) fun k hk e => by omega, (F1.al _).then f2 fun k hk e => by omega⟩
set_option maxHeartbeats 1000000 in
set_option maxRecDepth 100000 in
theorem value_text {w : World} {pb : Nat} {p : PS} (h : PAt w pb p) (k2 : p.peek.kind = 2) :
    Calls Tryz.prog 107 #[.pointer (some ⟨pb, 0, none⟩)] w fun e w' => e = .returned (vval p.value.1) ∧ PAt w' pb p.value.2 ∧ Frm (fun k => k = pb) w w' := by
  have hV : Hid (p.value = (⟨1, 0, p.peek.text⟩, p.adv)) := Lib.hid (by unfold PS.value; simp only; rw [if_neg (by omega), if_pos k2])
  have HT := Lib.hid (fun W (f : Frm No w W) => take_ok (h.no f))
  have nb := h.lt
  rw [hV.out]
  have b1 : (p.peek.kind == 1) = false := by simp [k2]
  have b2 : (p.peek.kind == 2) = true := by simp [k2]
  clear h hV k2
  unfold tval at HT
  have B0 := heap_alloc_new w (.cells #[.int .i64 0, .int .i64 0, .string ⟨#[]⟩] 55 (0, 0))
  have F0 : Frm No w (w.alloc (.cells #[.int .i64 0, .int .i64 0, .string ⟨#[]⟩] 55 (0, 0))) := (Frm.refl No w).al _
  have n0 : w.heap.size < (w.alloc (.cells #[.int .i64 0, .int .i64 0, .string ⟨#[]⟩] 55 (0, 0))).heap.size := lt_of_block B0
  go_enter Tryz.func107, Tryz.ntmps107
  go_wp2_with (fail)
  refine (HT.out _ F0).mono ?_
  rintro e w1 ⟨rfl, P1, f1⟩
  have B1 := f1.obj B0 (by omega)
  have F1 := (F0.mono (G := fun k => k = pb) fun _ _ h => h.elim).trans f1
  have n1 := lt_of_block B1
  clear HT B0 F0 f1
  go_wp2_with (refine wpList_sto _ rfl (.tmp 2) (.tmp 19) 55 rfl (al_old B1) (by kernel_rfl) (by rfl) (eVl.one ⟨1, 0, p.peek.text⟩) rfl rfl ?_)
  intro w2 B2 f2 z2
  have t0 : w2.cell? ⟨w.heap.size, 0, none⟩ = some (.int .i64 (Vl.kind ⟨1, 0, p.peek.text⟩)) := obj_cell B2 0
  have t1 : w2.cell? ⟨w.heap.size, 1, none⟩ = some (.int .i64 (Vl.int ⟨1, 0, p.peek.text⟩)) := obj_cell B2 1
  have t2 : w2.cell? ⟨w.heap.size, 2, none⟩ = some (.string (Vl.text ⟨1, 0, p.peek.text⟩)) := obj_cell B2 2
  go_wp2
  refine bodyPost_ret (v := vval ⟨1, 0, p.peek.text⟩) (by simp [results, Tryz.results107, go_sem, vval, *]) rfl ?_
  exact ⟨rfl, (P1.no (Frm.alloc No _ _)).frm f2 (fun e => by omega) fun k hk e => by omega, (F1.al _).then f2 fun k hk e => by omega⟩
set_option maxHeartbeats 1000000 in
set_option maxRecDepth 100000 in
theorem value_true {w : World} {pb : Nat} {p : PS} (h : PAt w pb p) (k0 : p.peek.kind = 0) (he1 : eqB p.peek.text ⟨#[116, 114, 117, 101]⟩ = true) :
    Calls Tryz.prog 107 #[.pointer (some ⟨pb, 0, none⟩)] w fun e w' => e = .returned (vval p.value.1) ∧ PAt w' pb p.value.2 ∧ Frm (fun k => k = pb) w w' := by
  have hV : Hid (p.value = (⟨2, 1, noTx⟩, p.adv)) := Lib.hid (by unfold PS.value; simp only; rw [if_neg (by omega), if_neg (by omega), if_pos ⟨k0, he1⟩])
  have HT := Lib.hid (fun W (f : Frm No w W) => take_ok (h.no f))
  have nb := h.lt
  rw [hV.out]
  have b1 : (p.peek.kind == 1) = false := by simp [k0]
  have b2 : (p.peek.kind == 2) = false := by simp [k0]
  have b0 : (p.peek.kind == 0) = true := by simp [k0]
  have e1 : (p.peek.text.toList == [116, 114, 117, 101]) = true := (tl_lit _ _).trans he1
  clear h hV k0 he1
  unfold tval at HT
  have B0 := heap_alloc_new w (.cells #[.int .i64 0, .int .i64 0, .string ⟨#[]⟩] 55 (0, 0))
  have F0 : Frm No w (w.alloc (.cells #[.int .i64 0, .int .i64 0, .string ⟨#[]⟩] 55 (0, 0))) := (Frm.refl No w).al _
  have n0 : w.heap.size < (w.alloc (.cells #[.int .i64 0, .int .i64 0, .string ⟨#[]⟩] 55 (0, 0))).heap.size := lt_of_block B0
  go_enter Tryz.func107, Tryz.ntmps107
  go_wp2_with (fail)
  refine (HT.out _ F0).mono ?_
  rintro e w1 ⟨rfl, P1, f1⟩
  have B1 := f1.obj B0 (by omega)
  have F1 := (F0.mono (G := fun k => k = pb) fun _ _ h => h.elim).trans f1
  have n1 := lt_of_block B1
  clear HT B0 F0 f1
  go_wp2_with (refine wpList_sto _ rfl (.tmp 2) (.tmp 29) 55 rfl (al_old B1) (by kernel_rfl) (by rfl) (eVl.one ⟨2, 1, noTx⟩) rfl rfl ?_)
  intro w2 B2 f2 z2
  have t0 : w2.cell? ⟨w.heap.size, 0, none⟩ = some (.int .i64 (Vl.kind ⟨2, 1, noTx⟩)) := obj_cell B2 0
  have t1 : w2.cell? ⟨w.heap.size, 1, none⟩ = some (.int .i64 (Vl.int ⟨2, 1, noTx⟩)) := obj_cell B2 1
  have t2 : w2.cell? ⟨w.heap.size, 2, none⟩ = some (.string (Vl.text ⟨2, 1, noTx⟩)) := obj_cell B2 2
  go_wp2
  refine bodyPost_ret (v := vval ⟨2, 1, noTx⟩) (by simp [results, Tryz.results107, go_sem, vval, *]) rfl ?_
  exact ⟨rfl, (P1.no (Frm.alloc No _ _)).frm f2 (fun e => by omega) fun k hk e => by omega, (F1.al _).then f2 fun k hk e => by omega⟩
set_option maxHeartbeats 1000000 in
set_option maxRecDepth 100000 in
theorem value_false {w : World} {pb : Nat} {p : PS} (h : PAt w pb p) (k0 : p.peek.kind = 0) (he1 : eqB p.peek.text ⟨#[116, 114, 117, 101]⟩ = false) (he2 : eqB p.peek.text ⟨#[102, 97, 108, 115, 101]⟩ = true) :
    Calls Tryz.prog 107 #[.pointer (some ⟨pb, 0, none⟩)] w fun e w' => e = .returned (vval p.value.1) ∧ PAt w' pb p.value.2 ∧ Frm (fun k => k = pb) w w' := by
  have hV : Hid (p.value = (⟨2, 0, noTx⟩, p.adv)) := Lib.hid (by unfold PS.value; simp only; rw [if_neg (by omega), if_neg (by omega), if_neg (by simp [he1]), if_pos ⟨k0, he2⟩])
  have HT := Lib.hid (fun W (f : Frm No w W) => take_ok (h.no f))
  have nb := h.lt
  rw [hV.out]
  have b1 : (p.peek.kind == 1) = false := by simp [k0]
  have b2 : (p.peek.kind == 2) = false := by simp [k0]
  have b0 : (p.peek.kind == 0) = true := by simp [k0]
  have e1 : (p.peek.text.toList == [116, 114, 117, 101]) = false := (tl_lit _ _).trans he1
  have e2 : (p.peek.text.toList == [102, 97, 108, 115, 101]) = true := (tl_lit _ _).trans he2
  clear h hV k0 he1 he2
  unfold tval at HT
  have B0 := heap_alloc_new w (.cells #[.int .i64 0, .int .i64 0, .string ⟨#[]⟩] 55 (0, 0))
  have F0 : Frm No w (w.alloc (.cells #[.int .i64 0, .int .i64 0, .string ⟨#[]⟩] 55 (0, 0))) := (Frm.refl No w).al _
  have n0 : w.heap.size < (w.alloc (.cells #[.int .i64 0, .int .i64 0, .string ⟨#[]⟩] 55 (0, 0))).heap.size := lt_of_block B0
  go_enter Tryz.func107, Tryz.ntmps107
  go_wp2_with (fail)
  refine (HT.out _ F0).mono ?_
  rintro e w1 ⟨rfl, P1, f1⟩
  have B1 := f1.obj B0 (by omega)
  have F1 := (F0.mono (G := fun k => k = pb) fun _ _ h => h.elim).trans f1
  have n1 := lt_of_block B1
  clear HT B0 F0 f1
  go_wp2_with (refine wpList_sto _ rfl (.tmp 2) (.tmp 39) 55 rfl (al_old B1) (by kernel_rfl) (by rfl) (eVl.one ⟨2, 0, noTx⟩) rfl rfl ?_)
  intro w2 B2 f2 z2
  have t0 : w2.cell? ⟨w.heap.size, 0, none⟩ = some (.int .i64 (Vl.kind ⟨2, 0, noTx⟩)) := obj_cell B2 0
  have t1 : w2.cell? ⟨w.heap.size, 1, none⟩ = some (.int .i64 (Vl.int ⟨2, 0, noTx⟩)) := obj_cell B2 1
  have t2 : w2.cell? ⟨w.heap.size, 2, none⟩ = some (.string (Vl.text ⟨2, 0, noTx⟩)) := obj_cell B2 2
  go_wp2
  refine bodyPost_ret (v := vval ⟨2, 0, noTx⟩) (by simp [results, Tryz.results107, go_sem, vval, *]) rfl ?_
  exact ⟨rfl, (P1.no (Frm.alloc No _ _)).frm f2 (fun e => by omega) fun k hk e => by omega, (F1.al _).then f2 fun k hk e => by omega⟩
set_option maxHeartbeats 1000000 in
set_option maxRecDepth 100000 in
theorem value_var {w : World} {pb : Nat} {p : PS} (h : PAt w pb p) (k3 : p.peek.kind = 3) (he3 : eqB p.peek.text ⟨#[36]⟩ = true) :
    Calls Tryz.prog 107 #[.pointer (some ⟨pb, 0, none⟩)] w fun e w' => e = .returned (vval p.value.1) ∧ PAt w' pb p.value.2 ∧ Frm (fun k => k = pb) w w' := by
  have hV : Hid (p.value = (⟨3, 0, p.adv.nameT⟩, p.adv.nameS)) := Lib.hid (by unfold PS.value; simp only; rw [if_neg (by omega), if_neg (by omega), if_neg (by omega), if_neg (by omega), if_pos ⟨k3, he3⟩])
  have HT := Lib.hid (fun W (f : Frm No w W) => take_ok (h.no f))
  have nb := h.lt
  rw [hV.out]
  have b1 : (p.peek.kind == 1) = false := by simp [k3]
  have b2 : (p.peek.kind == 2) = false := by simp [k3]
  have b0 : (p.peek.kind == 0) = false := by simp [k3]
  have b3 : (p.peek.kind == 3) = true := by simp [k3]
  have e3 : (p.peek.text.toList == [36]) = true := (tl_lit _ _).trans he3
  clear h hV k3 he3
  unfold tval at HT
  have B0 := heap_alloc_new w (.cells #[.int .i64 0, .int .i64 0, .string ⟨#[]⟩] 55 (0, 0))
  have F0 : Frm No w (w.alloc (.cells #[.int .i64 0, .int .i64 0, .string ⟨#[]⟩] 55 (0, 0))) := (Frm.refl No w).al _
  have n0 : w.heap.size < (w.alloc (.cells #[.int .i64 0, .int .i64 0, .string ⟨#[]⟩] 55 (0, 0))).heap.size := lt_of_block B0
  go_enter Tryz.func107, Tryz.ntmps107
  go_wp2_with (fail)
  refine (HT.out _ F0).mono ?_
  rintro e w1 ⟨rfl, P1, f1⟩
  have B1 := f1.obj B0 (by omega)
  have F1 := (F0.mono (G := fun k => k = pb) fun _ _ h => h.elim).trans f1
  have n1 := lt_of_block B1
  clear HT B0 F0 f1
  go_wp2_with (fail)
  refine (pname_ok (P1.no (Frm.alloc No _ _))).mono ?_
  rintro e w3 ⟨rfl, P3, f3⟩
  have B3 := f3.obj (al_old B1) (by omega)
  have F3 := (F1.al _).trans f3
  clear P1 B1 f3
  go_wp2_with (refine wpList_sto _ rfl (.tmp 2) (.tmp 51) 55 rfl B3 (by kernel_rfl) (by rfl) (eVl.one ⟨3, 0, p.adv.nameT⟩) rfl rfl ?_)
  intro w2 B2 f2 z2
  have t0 : w2.cell? ⟨w.heap.size, 0, none⟩ = some (.int .i64 (Vl.kind ⟨3, 0, p.adv.nameT⟩)) := obj_cell B2 0
  have t1 : w2.cell? ⟨w.heap.size, 1, none⟩ = some (.int .i64 (Vl.int ⟨3, 0, p.adv.nameT⟩)) := obj_cell B2 1
  have t2 : w2.cell? ⟨w.heap.size, 2, none⟩ = some (.string (Vl.text ⟨3, 0, p.adv.nameT⟩)) := obj_cell B2 2
  go_wp2
  refine bodyPost_ret (v := vval ⟨3, 0, p.adv.nameT⟩) (by simp [results, Tryz.results107, go_sem, vval, *]) rfl ?_
  exact ⟨rfl, P3.frm f2 (fun e => by omega) fun k hk e => by omega, F3.then f2 fun k hk e => by omega⟩
set_option maxHeartbeats 1000000 in
set_option maxRecDepth 100000 in
theorem value_bad0 {w : World} {pb : Nat} {p : PS} (h : PAt w pb p) (k0 : p.peek.kind = 0) (he1 : eqB p.peek.text ⟨#[116, 114, 117, 101]⟩ = false) (he2 : eqB p.peek.text ⟨#[102, 97, 108, 115, 101]⟩ = false) :
    Calls Tryz.prog 107 #[.pointer (some ⟨pb, 0, none⟩)] w fun e w' => e = .returned (vval p.value.1) ∧ PAt w' pb p.value.2 ∧ Frm (fun k => k = pb) w w' := by
  have hV : Hid (p.value = (⟨0, 0, noTx⟩, ⟨p.adv.ts, true⟩)) := Lib.hid (by unfold PS.value; simp only; rw [if_neg (by omega), if_neg (by omega), if_neg (by simp [he1]), if_neg (by simp [he2]), if_neg (by omega)])
  have HT := Lib.hid (fun W (f : Frm No w W) => take_ok (h.no f))
  have nb := h.lt
  rw [hV.out]
  have b1 : (p.peek.kind == 1) = false := by simp [k0]
  have b2 : (p.peek.kind == 2) = false := by simp [k0]
  have b0 : (p.peek.kind == 0) = true := by simp [k0]
  have b3 : (p.peek.kind == 3) = false := by simp [k0]
  have e1 : (p.peek.text.toList == [116, 114, 117, 101]) = false := (tl_lit _ _).trans he1
  have e2 : (p.peek.text.toList == [102, 97, 108, 115, 101]) = false := (tl_lit _ _).trans he2
  clear h hV k0 he1 he2
  unfold tval at HT
  have B0 := heap_alloc_new w (.cells #[.int .i64 0, .int .i64 0, .string ⟨#[]⟩] 55 (0, 0))
  have F0 : Frm No w (w.alloc (.cells #[.int .i64 0, .int .i64 0, .string ⟨#[]⟩] 55 (0, 0))) := (Frm.refl No w).al _
  have n0 : w.heap.size < (w.alloc (.cells #[.int .i64 0, .int .i64 0, .string ⟨#[]⟩] 55 (0, 0))).heap.size := lt_of_block B0
  go_enter Tryz.func107, Tryz.ntmps107
  go_wp2_with (fail)
  refine (HT.out _ F0).mono ?_
  rintro e w1 ⟨rfl, P1, f1⟩
  have B1 := f1.obj B0 (by omega)
  have F1 := (F0.mono (G := fun k => k = pb) fun _ _ h => h.elim).trans f1
  have n1 := lt_of_block B1
  clear HT B0 F0 f1
  obtain ⟨a, n, c, hb, hr⟩ := P1
  have zb := obj_frz hb
  have q1 : w1.cell? ⟨pb, 1, none⟩ = some (.bool p.adv.bad) := obj_cell hb 1
  have nb1 := lt_of_block hb
  have PB := PAt.set hb hr true
  go_wp2_with (refine wpList_sto _ rfl (.tmp 2) (.tmp 55) 55 rfl (al_old (obj_setCell_ne B1 (by omega) _)) (by kernel_rfl) (by rfl) (eVl.one ⟨0, 0, noTx⟩) rfl rfl ?_)
  intro w2 B2 f2 z2
  have t0 : w2.cell? ⟨w.heap.size, 0, none⟩ = some (.int .i64 (Vl.kind ⟨0, 0, noTx⟩)) := obj_cell B2 0
  have t1 : w2.cell? ⟨w.heap.size, 1, none⟩ = some (.int .i64 (Vl.int ⟨0, 0, noTx⟩)) := obj_cell B2 1
  have t2 : w2.cell? ⟨w.heap.size, 2, none⟩ = some (.string (Vl.text ⟨0, 0, noTx⟩)) := obj_cell B2 2
  go_wp2
  refine bodyPost_ret (v := vval ⟨0, 0, noTx⟩) (by simp [results, Tryz.results107, go_sem, vval, *]) rfl ?_
  exact ⟨rfl, (PB.no (Frm.alloc No _ _)).frm f2 (fun e => by omega) fun k hk e => by omega, ((F1.sc rfl _ _).al _).then f2 fun k hk e => by omega⟩
set_option maxHeartbeats 1000000 in
set_option maxRecDepth 100000 in
theorem value_bad3 {w : World} {pb : Nat} {p : PS} (h : PAt w pb p) (k3 : p.peek.kind = 3) (he3 : eqB p.peek.text ⟨#[36]⟩ = false) :
    Calls Tryz.prog 107 #[.pointer (some ⟨pb, 0, none⟩)] w fun e w' => e = .returned (vval p.value.1) ∧ PAt w' pb p.value.2 ∧ Frm (fun k => k = pb) w w' := by
  have hV : Hid (p.value = (⟨0, 0, noTx⟩, ⟨p.adv.ts, true⟩)) := Lib.hid (by unfold PS.value; simp only; rw [if_neg (by omega), if_neg (by omega), if_neg (by omega), if_neg (by omega), if_neg (by simp [he3])])
  have HT := Lib.hid (fun W (f : Frm No w W) => take_ok (h.no f))
  have nb := h.lt
  rw [hV.out]
  have b1 : (p.peek.kind == 1) = false := by simp [k3]
  have b2 : (p.peek.kind == 2) = false := by simp [k3]
  have b0 : (p.peek.kind == 0) = false := by simp [k3]
  have b3 : (p.peek.kind == 3) = true := by simp [k3]
  have e3 : (p.peek.text.toList == [36]) = false := (tl_lit _ _).trans he3
  clear h hV k3 he3
  unfold tval at HT
  have B0 := heap_alloc_new w (.cells #[.int .i64 0, .int .i64 0, .string ⟨#[]⟩] 55 (0, 0))
  have F0 : Frm No w (w.alloc (.cells #[.int .i64 0, .int .i64 0, .string ⟨#[]⟩] 55 (0, 0))) := (Frm.refl No w).al _
  have n0 : w.heap.size < (w.alloc (.cells #[.int .i64 0, .int .i64 0, .string ⟨#[]⟩] 55 (0, 0))).heap.size := lt_of_block B0
  go_enter Tryz.func107, Tryz.ntmps107
  go_wp2_with (fail)
  refine (HT.out _ F0).mono ?_
  rintro e w1 ⟨rfl, P1, f1⟩
  have B1 := f1.obj B0 (by omega)
  have F1 := (F0.mono (G := fun k => k = pb) fun _ _ h => h.elim).trans f1
  have n1 := lt_of_block B1
  clear HT B0 F0 f1
  obtain ⟨a, n, c, hb, hr⟩ := P1
  have zb := obj_frz hb
  have q1 : w1.cell? ⟨pb, 1, none⟩ = some (.bool p.adv.bad) := obj_cell hb 1
  have nb1 := lt_of_block hb
  have PB := PAt.set hb hr true
  go_wp2_with (refine wpList_sto _ rfl (.tmp 2) (.tmp 55) 55 rfl (al_old (obj_setCell_ne B1 (by omega) _)) (by kernel_rfl) (by rfl) (eVl.one ⟨0, 0, noTx⟩) rfl rfl ?_)
  intro w2 B2 f2 z2
  have t0 : w2.cell? ⟨w.heap.size, 0, none⟩ = some (.int .i64 (Vl.kind ⟨0, 0, noTx⟩)) := obj_cell B2 0
  have t1 : w2.cell? ⟨w.heap.size, 1, none⟩ = some (.int .i64 (Vl.int ⟨0, 0, noTx⟩)) := obj_cell B2 1
  have t2 : w2.cell? ⟨w.heap.size, 2, none⟩ = some (.string (Vl.text ⟨0, 0, noTx⟩)) := obj_cell B2 2
  go_wp2
  refine bodyPost_ret (v := vval ⟨0, 0, noTx⟩) (by simp [results, Tryz.results107, go_sem, vval, *]) rfl ?_
  exact ⟨rfl, (PB.no (Frm.alloc No _ _)).frm f2 (fun e => by omega) fun k hk e => by omega, ((F1.sc rfl _ _).al _).then f2 fun k hk e => by omega⟩
set_option maxHeartbeats 1000000 in
set_option maxRecDepth 100000 in
theorem value_bad {w : World} {pb : Nat} {p : PS} (h : PAt w pb p) (k0 : ¬ p.peek.kind = 0) (k1 : ¬ p.peek.kind = 1) (k2 : ¬ p.peek.kind = 2) (k3 : ¬ p.peek.kind = 3) :
    Calls Tryz.prog 107 #[.pointer (some ⟨pb, 0, none⟩)] w fun e w' => e = .returned (vval p.value.1) ∧ PAt w' pb p.value.2 ∧ Frm (fun k => k = pb) w w' := by
  have hV : Hid (p.value = (⟨0, 0, noTx⟩, ⟨p.adv.ts, true⟩)) := Lib.hid (by unfold PS.value; simp only; rw [if_neg k1, if_neg k2, if_neg (by omega), if_neg (by omega), if_neg (by omega)])
  have HT := Lib.hid (fun W (f : Frm No w W) => take_ok (h.no f))
  have nb := h.lt
  rw [hV.out]
  have b1 : (p.peek.kind == 1) = false := by simp [k1]
  have b2 : (p.peek.kind == 2) = false := by simp [k2]
  have b0 : (p.peek.kind == 0) = false := by simp [k0]
  have b3 : (p.peek.kind == 3) = false := by simp [k3]
  clear h hV k0 k1 k2 k3
  unfold tval at HT
  have B0 := heap_alloc_new w (.cells #[.int .i64 0, .int .i64 0, .string ⟨#[]⟩] 55 (0, 0))
  have F0 : Frm No w (w.alloc (.cells #[.int .i64 0, .int .i64 0, .string ⟨#[]⟩] 55 (0, 0))) := (Frm.refl No w).al _
  have n0 : w.heap.size < (w.alloc (.cells #[.int .i64 0, .int .i64 0, .string ⟨#[]⟩] 55 (0, 0))).heap.size := lt_of_block B0
  go_enter Tryz.func107, Tryz.ntmps107
  go_wp2_with (fail)
  refine (HT.out _ F0).mono ?_
  rintro e w1 ⟨rfl, P1, f1⟩
  have B1 := f1.obj B0 (by omega)
  have F1 := (F0.mono (G := fun k => k = pb) fun _ _ h => h.elim).trans f1
  have n1 := lt_of_block B1
  clear HT B0 F0 f1
  obtain ⟨a, n, c, hb, hr⟩ := P1
  have zb := obj_frz hb
  have q1 : w1.cell? ⟨pb, 1, none⟩ = some (.bool p.adv.bad) := obj_cell hb 1
  have nb1 := lt_of_block hb
  have PB := PAt.set hb hr true
  go_wp2_with (refine wpList_sto _ rfl (.tmp 2) (.tmp 55) 55 rfl (al_old (obj_setCell_ne B1 (by omega) _)) (by kernel_rfl) (by rfl) (eVl.one ⟨0, 0, noTx⟩) rfl rfl ?_)
  intro w2 B2 f2 z2
  have t0 : w2.cell? ⟨w.heap.size, 0, none⟩ = some (.int .i64 (Vl.kind ⟨0, 0, noTx⟩)) := obj_cell B2 0
  have t1 : w2.cell? ⟨w.heap.size, 1, none⟩ = some (.int .i64 (Vl.int ⟨0, 0, noTx⟩)) := obj_cell B2 1
  have t2 : w2.cell? ⟨w.heap.size, 2, none⟩ = some (.string (Vl.text ⟨0, 0, noTx⟩)) := obj_cell B2 2
  go_wp2
  refine bodyPost_ret (v := vval ⟨0, 0, noTx⟩) (by simp [results, Tryz.results107, go_sem, vval, *]) rfl ?_
  exact ⟨rfl, (PB.no (Frm.alloc No _ _)).frm f2 (fun e => by omega) fun k hk e => by omega, ((F1.sc rfl _ _).al _).then f2 fun k hk e => by omega⟩
theorem value_ok {w : World} {pb : Nat} {p : PS} (h : PAt w pb p) :
    Calls Tryz.prog 107 #[.pointer (some ⟨pb, 0, none⟩)] w fun e w' => e = .returned (vval p.value.1) ∧ PAt w' pb p.value.2 ∧ Frm (fun k => k = pb) w w' := by
  by_cases k1 : p.peek.kind = 1
  · exact value_int h k1
  by_cases k2 : p.peek.kind = 2
  · exact value_text h k2
  by_cases k0 : p.peek.kind = 0
  · rcases h1 : eqB p.peek.text ⟨#[116, 114, 117, 101]⟩ with _ | _
    · rcases h2 : eqB p.peek.text ⟨#[102, 97, 108, 115, 101]⟩ with _ | _
      · exact value_bad0 h k0 h1 h2
      · exact value_false h k0 h1 h2
    · exact value_true h k0 h1
  by_cases k3 : p.peek.kind = 3
  · rcases h3 : eqB p.peek.text ⟨#[36]⟩ with _ | _
    · exact value_bad3 h k3 h3
    · exact value_var h k3 h3
  exact value_bad h k0 k1 k2 k3
end Go.Proofs.YthaegncocdddfaaGreatDoor

/- Merged: Bulk EqTwo OpCp Plan6 Law9c KeepL Rdr Open9 OpenC OpenR RdU. -/
import Derived.Test.YtofikfkgiblblaaGreatDoorQ00
import Derived.Test.YtofikfkgiblblaaGreatDoorQ01
import Derived.Test.YtofikfkgiblblaaGreatDoorQ02
import Derived.Test.YtofikfkgiblblaaGreatDoorQ06
import Derived.Test.YtofikfkgiblblaaGreatDoorQ08
import Derived.Test.YtofikfkgiblblaaGreatDoorQ10
import Derived.Test.YtofikfkgiblblaaGreatDoorQ16
import Derived.Test.YtofikfkgiblblaaGreatDoorQ22
import Derived.Test.YtofikfkgiblblaaGreatDoorQ26
import Derived.Test.YtofikfkgiblblaaGreatDoorQ27
import Derived.Test.YtofikfkgiblblaaGreatDoorQ30
import Derived.Test.YtofikfkgiblblaaGreatDoorQ31
import Derived.Test.YtofikfkgiblblaaGreatDoorQ35
import Derived.Test.YtofikfkgiblblaaGreatDoorQ40
import Derived.Test.YtofikfkgiblblaaGreatDoorQ41
set_option linter.unusedVariables false
set_option linter.unusedSimpArgs false
/- What the second form's bound gives. -/
namespace Go.Proofs.YtofikfkgiblblaaGreatDoor
set_option linter.unusedVariables false
set_option linter.unusedSimpArgs false
open Go.RowKit Go.Lib Go.Tt
theorem bulk_part {H : Type} {d : DataW H} {l : List (DataW H)} (h : d ∈ l) : Rows.uptoBulk d ≤ Rows.uptoBulkAll l := by
  induction l with
  | nil => cases h
  | cons x r ih =>
    simp only [Rows.uptoBulkAll]
    rcases List.mem_cons.1 h with e | e
    · subst e; omega
    · have := ih e; omega
end Go.Proofs.YtofikfkgiblblaaGreatDoor
/- Structs of two numbers, compared. -/
namespace Go.Proofs.YtofikfkgiblblaaGreatDoor
open Go.RowKit Go.Lib Go.Tt Go.Shelf
set_option maxRecDepth 100000 in
theorem eq_stamp (a b c d : Int) (W : World) : (binOp .eql 23 (.agg #[.int .i64 a, .int .i64 b]) (.agg #[.int .i64 c, .int .i64 d])).run Tryz.prog W = .ok (.bool (decide (a = c ∧ b = d))) W := by
  by_cases h1 : a = c
  · by_cases h2 : b = d
    · go_simp
    · go_simp
  · go_simp
set_option maxRecDepth 100000 in
theorem eq_pair (a b c d : Int) (W : World) : (binOp .eql 25 (.agg #[.int .i64 a, .int .i64 b]) (.agg #[.int .i64 c, .int .i64 d])).run Tryz.prog W = .ok (.bool (decide (a = c ∧ b = d))) W := by
  by_cases h1 : a = c
  · by_cases h2 : b = d
    · go_simp
    · go_simp
  · go_simp
set_option maxRecDepth 100000 in
theorem eq_dot (a b c d : Int) (W : World) : (binOp .eql 32 (.agg #[.int .i64 a, .int .i64 b]) (.agg #[.int .i64 c, .int .i64 d])).run Tryz.prog W = .ok (.bool (decide (a = c ∧ b = d))) W := by
  by_cases h1 : a = c
  · by_cases h2 : b = d
    · go_simp
    · go_simp
  · go_simp
end Go.Proofs.YtofikfkgiblblaaGreatDoor
/- Operations copied, compared; the reference's Stable. -/
namespace Go.Proofs.YtofikfkgiblblaaGreatDoor
open Go.RowKit Go.Lib Go.Tt Go.Shelf
/-- An operation's slices are the call's own. -/
structure OpO (w : World) (F : Nat → Prop) (o : OpV) (vd vo : Value) : Prop where
  d : Ow w F 3 eInt vd o.deps
  s : Ow w F 32 eDt vo o.dots
theorem OpO.rd {w : World} {F : Nat → Prop} {o : OpV} {vd vo : Value} (h : OpO w F o vd vo) : OpR w o vd vo := ⟨h.d.rd, h.s.rd⟩
set_option maxHeartbeats 2000000 in
set_option maxRecDepth 100000 in
theorem copyOp_ok {w : World} {o : OpV} {vd vo : Value} (h : OpR w o vd vo) (b1 : o.deps.length * 8 ≤ reachBytes) (b2 : o.dots.length * 16 ≤ reachBytes) :
    Calls Tryz.prog 10 #[opval o vd vo] w fun e w' => ∃ vd' vo', e = .returned (opval o vd' vo') ∧ OpO w' (Nw No w w') o vd' vo' ∧ Frm No w w' := by
  obtain ⟨hd, hs⟩ := h
  obtain ⟨ad, cd, rfl⟩ := hd.sh
  obtain ⟨ao, co, rfl⟩ := hs.sh
  unfold reachBytes at b1 b2
  have HD := Lib.hid hd
  have HS := Lib.hid hs
  unfold opval opCells
  have F0 : Frm No w ((w.alloc (.cells #[.int .i64 o.dot.1, .int .i64 o.dot.2, .int .i64 o.time, .slice ad o.deps.length cd, .int .i64 o.kind, .string o.type, .string o.id, .string o.field, .string o.value, .int .i64 o.num.1, .int .i64 o.num.2, .int .i64 o.ref.1, .int .i64 o.ref.2, .slice ao o.dots.length co] 35 (0, 0))).alloc (.cells #[.int .i64 0, .int .i64 0, .int .i64 0, .slice none 0 0, .int .i64 0, .string ⟨#[]⟩, .string ⟨#[]⟩, .string ⟨#[]⟩, .string ⟨#[]⟩, .int .i64 0, .int .i64 0, .int .i64 0, .int .i64 0, .slice none 0 0] 35 (0, 0))) := ((Frm.refl No w).al _).al _
  have B0 : ((w.alloc (.cells #[.int .i64 o.dot.1, .int .i64 o.dot.2, .int .i64 o.time, .slice ad o.deps.length cd, .int .i64 o.kind, .string o.type, .string o.id, .string o.field, .string o.value, .int .i64 o.num.1, .int .i64 o.num.2, .int .i64 o.ref.1, .int .i64 o.ref.2, .slice ao o.dots.length co] 35 (0, 0))).alloc (.cells #[.int .i64 0, .int .i64 0, .int .i64 0, .slice none 0 0, .int .i64 0, .string ⟨#[]⟩, .string ⟨#[]⟩, .string ⟨#[]⟩, .string ⟨#[]⟩, .int .i64 0, .int .i64 0, .int .i64 0, .int .i64 0, .slice none 0 0] 35 (0, 0))).heap[w.heap.size]? = some (.cells #[.int .i64 o.dot.1, .int .i64 o.dot.2, .int .i64 o.time, .slice ad o.deps.length cd, .int .i64 o.kind, .string o.type, .string o.id, .string o.field, .string o.value, .int .i64 o.num.1, .int .i64 o.num.2, .int .i64 o.ref.1, .int .i64 o.ref.2, .slice ao o.dots.length co] 35 (0, 0)) := al_old (heap_alloc_new w _)
  have C0 : ((w.alloc (.cells #[.int .i64 o.dot.1, .int .i64 o.dot.2, .int .i64 o.time, .slice ad o.deps.length cd, .int .i64 o.kind, .string o.type, .string o.id, .string o.field, .string o.value, .int .i64 o.num.1, .int .i64 o.num.2, .int .i64 o.ref.1, .int .i64 o.ref.2, .slice ao o.dots.length co] 35 (0, 0))).alloc (.cells #[.int .i64 0, .int .i64 0, .int .i64 0, .slice none 0 0, .int .i64 0, .string ⟨#[]⟩, .string ⟨#[]⟩, .string ⟨#[]⟩, .string ⟨#[]⟩, .int .i64 0, .int .i64 0, .int .i64 0, .int .i64 0, .slice none 0 0] 35 (0, 0))).heap[w.heap.size + 1]? = some (.cells #[.int .i64 0, .int .i64 0, .int .i64 0, .slice none 0 0, .int .i64 0, .string ⟨#[]⟩, .string ⟨#[]⟩, .string ⟨#[]⟩, .string ⟨#[]⟩, .int .i64 0, .int .i64 0, .int .i64 0, .int .i64 0, .slice none 0 0] 35 (0, 0)) := al_at (by simp)
  clear hd hs
  go_enter Tryz.func10, Tryz.ntmps10
  go_wp2_with (at_builtin; refine wpList_ap _ rfl (.tmp 3) (.tmp 5) 28 28 rfl 3 _ 8 Tryz.underlying28 i_int rfl (Ow.nil _ No _ eInt _) ((HD.out.no (F0.al _)).src Tryz.underlying28) rfl rfl rfl ?_ ?_ ?_)
  · unfold maxLen; simp; omega
  · simp; omega
  intro a1 c1 w1 o1 f1
  have F1 := (F0.al _).trans f1
  have B1 := f1.obj (al_old B0) id
  have C1 := f1.obj (al_old C0) id
  have z0 := lt_of_block C0
  replace o1 := o1.from (w.heap.size + 2) (by first | (simp; done) | (simp; omega))
  have z1 := lt_of_block C1
  have n1 := lt_of_block B1
  clear f1 B0 C0 F0
  go_wp2_with (refine wpList_stoC _ rfl (.tmp 7) (.tmp 6) 28 rfl B1 (vs := [.slice a1 o.deps.length c1]) rfl (by kernel_rfl) (by show 3 + 1 ≤ 14; omega) (by intro u hu; simp at hu; subst hu; rfl) rfl rfl #[.int .i64 o.dot.1, .int .i64 o.dot.2, .int .i64 o.time, .slice a1 o.deps.length c1, .int .i64 o.kind, .string o.type, .string o.id, .string o.field, .string o.value, .int .i64 o.num.1, .int .i64 o.num.2, .int .i64 o.ref.1, .int .i64 o.ref.2, .slice ao o.dots.length co] rfl ?_)
  intro w2 B2 f2 z2
  have F2 := F1.then f2 fun k hk e => by omega
  have C2 := f2.obj C1 (by omega)
  have o2 := o1.frm f2 fun k hk e => by omega
  clear B1 C1 f2 F1 o1
  obtain ⟨q0, q1, q2, q3, q4, q5, q6, q7, q8, q9, q10, q11, q12, q13⟩ := obj14 B2
  have n2 := lt_of_block B2
  go_wp2_with (at_builtin; refine wpList_ap _ rfl (.tmp 8) (.tmp 10) 33 33 rfl 32 _ 16 Tryz.underlying33 i_dt rfl (Ow.nil _ No _ eDt _) ((HS.out.no (F2.al _)).src Tryz.underlying33) rfl rfl rfl ?_ ?_ ?_)
  · unfold maxLen; simp; omega
  · simp; omega
  intro a2 c2 w3 o3 f3
  have F3 := (F2.al _).trans f3
  have B3 := f3.obj (al_old B2) id
  have C3 := f3.obj (al_old C2) id
  have o4 := (o2.al (.cells #[] 32)).no f3
  replace o3 := o3.from (w.heap.size + 2) (by first | (simp; done) | (simp; omega))
  clear f3 B2 C2 F2 o2 q0 q1 q2 q3 q4 q5 q6 q7 q8 q9 q10 q11 q12 q13 n2
  have z3 := lt_of_block C3
  have n3 := lt_of_block B3
  go_wp2_with (refine wpList_stoC _ rfl (.tmp 12) (.tmp 11) 33 rfl B3 (vs := [.slice a2 o.dots.length c2]) rfl (by kernel_rfl) (by show 13 + 1 ≤ 14; omega) (by intro u hu; simp at hu; subst hu; rfl) rfl rfl #[.int .i64 o.dot.1, .int .i64 o.dot.2, .int .i64 o.time, .slice a1 o.deps.length c1, .int .i64 o.kind, .string o.type, .string o.id, .string o.field, .string o.value, .int .i64 o.num.1, .int .i64 o.num.2, .int .i64 o.ref.1, .int .i64 o.ref.2, .slice a2 o.dots.length c2] rfl ?_)
  intro w4 B4 f4 z4
  have F4 := F3.then f4 fun k hk e => by omega
  have C4 := f4.obj C3 (by omega)
  have o5 := o4.frm f4 fun k hk e => by omega
  have o6 := o3.frm f4 fun k hk e => by omega
  clear B3 C3 f4 F3 o3 o4
  obtain ⟨q0, q1, q2, q3, q4, q5, q6, q7, q8, q9, q10, q11, q12, q13⟩ := obj14 B4
  have n4 := lt_of_block B4
  go_wp2_with (refine wpList_sto _ rfl (.tmp 2) (.tmp 13) 35 rfl C4 (by kernel_rfl) (by rfl) (vs := [.int .i64 o.dot.1, .int .i64 o.dot.2, .int .i64 o.time, .slice a1 o.deps.length c1, .int .i64 o.kind, .string o.type, .string o.id, .string o.field, .string o.value, .int .i64 o.num.1, .int .i64 o.num.2, .int .i64 o.ref.1, .int .i64 o.ref.2, .slice a2 o.dots.length c2]) (by intro u hu; simp only [List.mem_cons, List.not_mem_nil, or_false] at hu; rcases hu with rfl | rfl | rfl | rfl | rfl | rfl | rfl | rfl | rfl | rfl | rfl | rfl | rfl | rfl <;> rfl) rfl rfl ?_)
  intro w5 C5 f5 z5
  clear q0 q1 q2 q3 q4 q5 q6 q7 q8 q9 q10 q11 q12 q13
  obtain ⟨q0, q1, q2, q3, q4, q5, q6, q7, q8, q9, q10, q11, q12, q13⟩ := obj14 C5
  go_wp2_with (fail)
  refine bodyPost_ret (v := .agg #[.int .i64 o.dot.1, .int .i64 o.dot.2, .int .i64 o.time, .slice a1 o.deps.length c1, .int .i64 o.kind, .string o.type, .string o.id, .string o.field, .string o.value, .int .i64 o.num.1, .int .i64 o.num.2, .int .i64 o.ref.1, .int .i64 o.ref.2, .slice a2 o.dots.length c2]) (by simp [results, Tryz.results10, go_sem, *]) rfl ?_
  exact ⟨.slice a1 o.deps.length c1, .slice a2 o.dots.length c2, rfl, ⟨(((o5.frm f5 fun k hk e => by omega).mono (G := fun k => w.heap.size ≤ k) fun k _ h => by omega).fin (Nat.le_refl _)), (((o6.frm f5 fun k hk e => by omega).mono (G := fun k => w.heap.size ≤ k) fun k _ h => by omega).fin (Nat.le_refl _))⟩, F4.then f5 fun k hk e => by omega⟩
set_option maxHeartbeats 4000000 in
set_option maxRecDepth 100000 in
theorem sameOp_ok {w : World} {o : OpV} {vd vo vd' vo' : Value} (h : OpR w o vd vo) (h' : OpR w o vd' vo') :
    Calls Tryz.prog 24 #[opval o vd vo, opval o vd' vo'] w fun e w' => e = .returned (.bool true) ∧ Frm No w w' := by
  obtain ⟨hd, hs⟩ := h
  obtain ⟨hd', hs'⟩ := h'
  obtain ⟨ad, cd, rfl⟩ := hd.sh
  obtain ⟨ao, co, rfl⟩ := hs.sh
  obtain ⟨ad', cd', rfl⟩ := hd'.sh
  obtain ⟨ao', co', rfl⟩ := hs'.sh
  have HI := Lib.hid (fun W (f : Frm No w W) => sameInts_ok (hd.no f) (hd'.no f))
  have HD := Lib.hid (fun W (f : Frm No w W) => sameDots_ok (hs.no f) (hs'.no f))
  simp only [decide_true] at HI HD
  clear hd hs hd' hs'
  unfold opval opCells
  have F0 : Frm No w ((w.alloc (.cells #[.int .i64 o.dot.1, .int .i64 o.dot.2, .int .i64 o.time, .slice ad o.deps.length cd, .int .i64 o.kind, .string o.type, .string o.id, .string o.field, .string o.value, .int .i64 o.num.1, .int .i64 o.num.2, .int .i64 o.ref.1, .int .i64 o.ref.2, .slice ao o.dots.length co] 35 (0, 0))).alloc (.cells #[.int .i64 o.dot.1, .int .i64 o.dot.2, .int .i64 o.time, .slice ad' o.deps.length cd', .int .i64 o.kind, .string o.type, .string o.id, .string o.field, .string o.value, .int .i64 o.num.1, .int .i64 o.num.2, .int .i64 o.ref.1, .int .i64 o.ref.2, .slice ao' o.dots.length co'] 35 (0, 0))) := ((Frm.refl No w).al _).al _
  have B0 : ((w.alloc (.cells #[.int .i64 o.dot.1, .int .i64 o.dot.2, .int .i64 o.time, .slice ad o.deps.length cd, .int .i64 o.kind, .string o.type, .string o.id, .string o.field, .string o.value, .int .i64 o.num.1, .int .i64 o.num.2, .int .i64 o.ref.1, .int .i64 o.ref.2, .slice ao o.dots.length co] 35 (0, 0))).alloc (.cells #[.int .i64 o.dot.1, .int .i64 o.dot.2, .int .i64 o.time, .slice ad' o.deps.length cd', .int .i64 o.kind, .string o.type, .string o.id, .string o.field, .string o.value, .int .i64 o.num.1, .int .i64 o.num.2, .int .i64 o.ref.1, .int .i64 o.ref.2, .slice ao' o.dots.length co'] 35 (0, 0))).heap[w.heap.size]? = some (.cells #[.int .i64 o.dot.1, .int .i64 o.dot.2, .int .i64 o.time, .slice ad o.deps.length cd, .int .i64 o.kind, .string o.type, .string o.id, .string o.field, .string o.value, .int .i64 o.num.1, .int .i64 o.num.2, .int .i64 o.ref.1, .int .i64 o.ref.2, .slice ao o.dots.length co] 35 (0, 0)) := al_old (heap_alloc_new w _)
  have C0 : ((w.alloc (.cells #[.int .i64 o.dot.1, .int .i64 o.dot.2, .int .i64 o.time, .slice ad o.deps.length cd, .int .i64 o.kind, .string o.type, .string o.id, .string o.field, .string o.value, .int .i64 o.num.1, .int .i64 o.num.2, .int .i64 o.ref.1, .int .i64 o.ref.2, .slice ao o.dots.length co] 35 (0, 0))).alloc (.cells #[.int .i64 o.dot.1, .int .i64 o.dot.2, .int .i64 o.time, .slice ad' o.deps.length cd', .int .i64 o.kind, .string o.type, .string o.id, .string o.field, .string o.value, .int .i64 o.num.1, .int .i64 o.num.2, .int .i64 o.ref.1, .int .i64 o.ref.2, .slice ao' o.dots.length co'] 35 (0, 0))).heap[w.heap.size + 1]? = some (.cells #[.int .i64 o.dot.1, .int .i64 o.dot.2, .int .i64 o.time, .slice ad' o.deps.length cd', .int .i64 o.kind, .string o.type, .string o.id, .string o.field, .string o.value, .int .i64 o.num.1, .int .i64 o.num.2, .int .i64 o.ref.1, .int .i64 o.ref.2, .slice ao' o.dots.length co'] 35 (0, 0)) := al_at (by simp)
  go_enter Tryz.func24, Tryz.ntmps24
  go_wp2_with (fail)
  revert F0 B0 C0
  generalize ((w.alloc (.cells #[.int .i64 o.dot.1, .int .i64 o.dot.2, .int .i64 o.time, .slice ad o.deps.length cd, .int .i64 o.kind, .string o.type, .string o.id, .string o.field, .string o.value, .int .i64 o.num.1, .int .i64 o.num.2, .int .i64 o.ref.1, .int .i64 o.ref.2, .slice ao o.dots.length co] 35 (0, 0))).alloc (.cells #[.int .i64 o.dot.1, .int .i64 o.dot.2, .int .i64 o.time, .slice ad' o.deps.length cd', .int .i64 o.kind, .string o.type, .string o.id, .string o.field, .string o.value, .int .i64 o.num.1, .int .i64 o.num.2, .int .i64 o.ref.1, .int .i64 o.ref.2, .slice ao' o.dots.length co'] 35 (0, 0))) = Y
  intro F0 B0 C0
  refine (HI.out _ F0).mono ?_
  rintro e w1 ⟨rfl, m, rfl⟩
  have F1 := F0.trans (Frm.drewN No Y m)
  have B1 := (Frm.drewN No Y m).obj B0 id
  have C1 := (Frm.drewN No Y m).obj C0 id
  clear F0 B0 C0
  revert F1 B1 C1
  generalize Y.drewN m = Y1
  intro F1 B1 C1
  obtain ⟨q0, q1, q2, q3, q4, q5, q6, q7, q8, q9, q10, q11, q12, q13⟩ := obj14 B1
  obtain ⟨p0, p1, p2, p3, p4, p5, p6, p7, p8, p9, p10, p11, p12, p13⟩ := obj14 C1
  have n1 := lt_of_block B1
  have n2 := lt_of_block C1
  go_wp2_with (fail)
  refine (HD.out _ F1).mono ?_
  rintro e w1 ⟨rfl, m', rfl⟩
  go_wp2_with (fail)
  go_ret
  exact ⟨rfl, F1.trans (Frm.drewN No Y1 m')⟩
set_option maxRecDepth 100000 in
theorem refStable_ok {w : World} {c : CellV} {ve vl vs : Value} (h : CellR w c ve vl vs) {a : Option Addr} {n m : Nat} {l : List Int} (hl : RdS w eInt (.slice a n m) l) :
    Calls Tryz.prog 23 #[cval c ve vl vs, .slice a n m] w fun e w' => e = .returned (.bool (vUnder c.seen l)) ∧ Frm No w w' := by
  obtain ⟨he, hl', hs⟩ := h
  obtain ⟨ae, ce, rfl⟩ := he.sh
  obtain ⟨al, cl, rfl⟩ := hl'.sh
  obtain ⟨at_, cs, rfl⟩ := hs.sh
  unfold cval
  have HU := Lib.hid (fun W (f : Frm No w W) => refUnder_ok (hs.no f) (hl.no f))
  clear he hl' hs hl
  go_enter Tryz.func23, Tryz.ntmps23
  go_wp2_with (fail)
  refine (HU.out _ ((Frm.refl No w).al _)).mono ?_
  rintro e w1 ⟨rfl, k, rfl⟩
  go_wp2_with (fail)
  go_ret
  exact ⟨rfl, ((Frm.refl No w).al _).trans (Frm.drewN No _ k)⟩
end Go.Proofs.YtofikfkgiblblaaGreatDoor
/- A region that draws its order: a plan that may fork in two or in three. No program in sight. -/
namespace Go.Tt
section
variable {P : Program} {ops : Array Oper} {N : Act → World → Prop}
/-- A plan that may fork. -/
inductive PT6 where
  | nil
  | one (i : Nat) (L : List Nat) (r : PT6)
  | two (i : Nat) (L : List Nat) (r : PT6) (j : Nat) (M : List Nat) (s : PT6)
  | three (i : Nat) (L : List Nat) (r : PT6) (j : Nat) (M : List Nat) (s : PT6) (k : Nat) (K : List Nat) (t : PT6)
def wpT6 (P : Program) (ops : Array Oper) (N : Act → World → Prop) : PT6 → Act → World → Prop
  | .nil => N
  | .one i L r => wpStep P ops i L (wpT6 P ops N r)
  | .two i L r j M s => fun a w => wpStep P ops i L (wpT6 P ops N r) a w ∧ wpStep P ops j M (wpT6 P ops N s) a w
  | .three i L r j M s k K t => fun a w => wpStep P ops i L (wpT6 P ops N r) a w ∧ wpStep P ops j M (wpT6 P ops N s) a w ∧ wpStep P ops k K (wpT6 P ops N t) a w
def planT6 (P : Program) (ops : Array Oper) (nt : Nat) : PT6 → Nat → Array Bool → List Nat → Bool
  | .nil, f, l, _ => f == 0 && (Region.ready .any ops l).isEmpty
  | .one i L r, f, l, pend => match f with
    | 0 => false
    | f + 1 => match ops[i]? with
      | none => false
      | some o =>
        if opCls P o.op = 0 then
          decide (Region.ready .any ops l = [i]) && wrB ops o i L pend && planT6 P ops nt r f (l.setIfInBounds i true) (pend.filter fun k => !waits ops i k)
        else
          L.isEmpty && (Region.ready .any ops l).contains i && Region.free .any ops l i && (match o.dst with | some d => decide (d < nt) && !(o.looksAt ops).contains d | none => false) && pend.all (fun k => sepB ops o k) &&
            planT6 P ops nt r f (l.setIfInBounds i true) (if opCls P o.op = 1 then i :: pend else pend)
  | .two i L r j M s, f, l, pend => match f with
    | 0 => false
    | f + 1 => match ops[i]?, ops[j]? with
      | some oi, some oj => opCls P oi.op == 0 && opCls P oj.op == 0 && decide (Region.ready .any ops l = [i, j]) && wrB ops oi i L pend && wrB ops oj j M pend &&
          planT6 P ops nt r f (l.setIfInBounds i true) (pend.filter fun k => !waits ops i k) && planT6 P ops nt s f (l.setIfInBounds j true) (pend.filter fun k => !waits ops j k)
      | _, _ => false
  | .three i L r j M s k K t, f, l, pend => match f with
    | 0 => false
    | f + 1 => match ops[i]?, ops[j]?, ops[k]? with
      | some oi, some oj, some ok => opCls P oi.op == 0 && opCls P oj.op == 0 && opCls P ok.op == 0 && decide (Region.ready .any ops l = [i, j, k]) && wrB ops oi i L pend && wrB ops oj j M pend && wrB ops ok k K pend &&
          planT6 P ops nt r f (l.setIfInBounds i true) (pend.filter fun x => !waits ops i x) && planT6 P ops nt s f (l.setIfInBounds j true) (pend.filter fun x => !waits ops j x) && planT6 P ops nt t f (l.setIfInBounds k true) (pend.filter fun x => !waits ops k x)
      | _, _, _ => false
theorem wpAnyP_three {i j k : Nat} {S : Array Bool → Act → World → Prop} {f : Nat} {l : Array Bool} {a : Act} {w : World} (hr : Region.ready .any ops l = [i, j, k]) (hS : S l a w)
    (h : wpOp P ops (Nrm N) i (wpAnyP P .any ops N S f (l.setIfInBounds i true)) a w) (h' : wpOp P ops (Nrm N) j (wpAnyP P .any ops N S f (l.setIfInBounds j true)) a w) (h'' : wpOp P ops (Nrm N) k (wpAnyP P .any ops N S f (l.setIfInBounds k true)) a w) : wpAnyP P .any ops N S (f + 1) l a w :=
  ⟨hS, fun h0 => (by rw [hr] at h0; cases h0), fun x hk => by
    rw [hr] at hk
    have : x = i ∨ x = j ∨ x = k := by simpa using hk
    rcases this with rfl | rfl | rfl
    · exact h
    · exact h'
    · exact h''⟩
theorem planT6_sound (hsel : Region.noSelect ops = true) (ht : tblOK ops (Region.before ops).toList = true) {nt : Nat} :
    ∀ (pl : PT6) (f : Nat) (l : Array Bool) (pend : List Nat) (a : Act) (w : World), planT6 P ops nt pl f l pend = true → nt ≤ a.tmps.size → Closed .any ops l → SL P ops pend a l a w →
      wpT6 P ops N pl a w → wpAnyP P .any ops N (SL P ops pend a) f l a w
  | .nil, f, l, pend, a, w, hB, _, _, hS, h => by
    simp only [planT6, Bool.and_eq_true, beq_iff_eq] at hB
    obtain ⟨rfl, hB⟩ := hB
    exact ⟨hS, by simpa using hB, h⟩
  | .one i L r, 0, l, pend, a, w, hB, hn, hc, hS, h => by simp [planT6] at hB
  | .two i L r j M s, 0, l, pend, a, w, hB, hn, hc, hS, h => by simp [planT6] at hB
  | .three i L r j M s k K t, 0, l, pend, a, w, hB, hn, hc, hS, h => by simp [planT6] at hB
  | .three i L r j M s k K t, f + 1, l, pend, a, w, hB, hn, hc, hS, h => by
    simp only [planT6] at hB
    cases hoi : ops[i]? with
    | none => simp [hoi] at hB
    | some oi =>
      cases hoj : ops[j]? with
      | none => simp [hoi, hoj] at hB
      | some oj =>
        cases hok : ops[k]? with
        | none => simp [hoi, hoj, hok] at hB
        | some ok =>
          simp only [hoi, hoj, hok, Bool.and_eq_true, beq_iff_eq, decide_eq_true_eq] at hB
          obtain ⟨⟨⟨⟨⟨⟨⟨⟨⟨c1, c2⟩, c3⟩, hr⟩, w1⟩, w2⟩, w3⟩, b1⟩, b2⟩, b3⟩ := hB
          have ri : i ∈ Region.ready .any ops l := by rw [hr]; simp
          have rj : j ∈ Region.ready .any ops l := by rw [hr]; simp
          have rk : k ∈ Region.ready .any ops l := by rw [hr]; simp
          exact wpAnyP_three hr hS (writer_ok ri hoi c1 w1 hS (fun a' w' hz hS' hK => planT6_sound hsel ht r f _ _ a' w' b1 (by rw [hz]; exact hn) (closed_set hc ri) hS' hK) h.1)
            (writer_ok rj hoj c2 w2 hS (fun a' w' hz hS' hK => planT6_sound hsel ht s f _ _ a' w' b2 (by rw [hz]; exact hn) (closed_set hc rj) hS' hK) h.2.1)
            (writer_ok rk hok c3 w3 hS (fun a' w' hz hS' hK => planT6_sound hsel ht t f _ _ a' w' b3 (by rw [hz]; exact hn) (closed_set hc rk) hS' hK) h.2.2)
  | .two i L r j M s, f + 1, l, pend, a, w, hB, hn, hc, hS, h => by
    simp only [planT6] at hB
    cases hoi : ops[i]? with
    | none => simp [hoi] at hB
    | some oi =>
      cases hoj : ops[j]? with
      | none => simp [hoi, hoj] at hB
      | some oj =>
        simp only [hoi, hoj, Bool.and_eq_true, beq_iff_eq, decide_eq_true_eq] at hB
        obtain ⟨⟨⟨⟨⟨⟨c1, c2⟩, hr⟩, w1⟩, w2⟩, b1⟩, b2⟩ := hB
        have ri : i ∈ Region.ready .any ops l := by rw [hr]; simp
        have rj : j ∈ Region.ready .any ops l := by rw [hr]; simp
        exact wpAnyP_two hr hS (writer_ok ri hoi c1 w1 hS (fun a' w' hz hS' hK => planT6_sound hsel ht r f _ _ a' w' b1 (by rw [hz]; exact hn) (closed_set hc ri) hS' hK) h.1)
          (writer_ok rj hoj c2 w2 hS (fun a' w' hz hS' hK => planT6_sound hsel ht s f _ _ a' w' b2 (by rw [hz]; exact hn) (closed_set hc rj) hS' hK) h.2)
  | .one i L r, f + 1, l, pend, a, w, hB, hn, hc, hS, h => by
    cases ho : ops[i]? with
    | none => simp [planT6, ho] at hB
    | some o =>
      simp only [planT6, ho] at hB
      by_cases hcl : opCls P o.op = 0
      · rw [if_pos hcl] at hB
        simp only [Bool.and_eq_true, decide_eq_true_eq] at hB
        obtain ⟨⟨hr, hall⟩, hB'⟩ := hB
        have hri : i ∈ Region.ready .any ops l := by rw [hr]; simp
        exact wpAnyP_only hr hS (writer_ok hri ho hcl hall hS (fun a' w' hz hS' hK => planT6_sound hsel ht r f _ _ a' w' hB' (by rw [hz]; exact hn) (closed_set hc hri) hS' hK) h)
      · rw [if_neg hcl] at hB
        simp only [wpT6, wpStep, ho] at h
        simp only [Bool.and_eq_true] at hB
        obtain ⟨⟨⟨⟨⟨_, hr⟩, hf⟩, hd⟩, hsep⟩, hB'⟩ := hB
        have hr' : i ∈ Region.ready .any ops l := by simpa using hr
        have hsep' : ∀ k ∈ pend, sepB ops o k = true := List.all_eq_true.1 hsep
        cases hdst : o.dst with
        | none => simp [hdst] at hd
        | some d =>
          simp only [hdst, Bool.and_eq_true, decide_eq_true_eq, Bool.not_eq_true'] at hd
          have hself : ∀ e, o.dst = some e → e ∉ o.looksAt ops := fun e he => by
            rw [hdst] at he
            obtain rfl := Option.some.inj he
            have := hd.2
            simpa using this
          obtain ⟨v, hy, hpl⟩ : ∃ v, Yld P ops o v a w ∧ wpT6 P ops N r (a.put o.dst v) w := by
            split at h
            · rename_i hw
              obtain ⟨v, h1, h2⟩ := quiet_yields hcl h
              exact ⟨v, .inl ⟨hw, h1⟩, h2.2⟩
            · rename_i hw
              exact ⟨undef, .inr ⟨by simpa using hw, rfl⟩, h.2⟩
          have sel := Region.noSelect_spec hsel
          have hv : (a.put o.dst v).tmps.getD d undef = v := by rw [hdst]; exact getD_put_eq (Nat.lt_of_lt_of_le hd.1 hn)
          have hins : ∀ l' a' w', SL P ops pend a (l'.setIfInBounds i true) (a'.put o.dst v) w' → SL P ops pend a l' a' w' := by
            intro l' a' w' hs k hk ok e hok he
            rcases hs k hk ok e hok he with ⟨j, hj, hj2⟩ | hy
            · refine .inl ⟨j, hj, ?_⟩
              have hne : i ≠ j := fun e => by
                subst e
                simp [relB, ho, hcl] at hj
              rwa [getD_set_ne false hne] at hj2
            · exact .inr ((yld_put (sel k ok · · hok) (sepB_spec (hsep' k hk) hok).1).1 hy)
          have hS0 : SL P ops pend (a.put o.dst v) (l.setIfInBounds i true) (a.put o.dst v) w := sl_put hsel hsep' hS (sup_set l i)
          have back : ∀ {pend' : List Nat} {l' a' w'}, (∀ k ∈ pend, k ∈ pend') → SL P ops pend' (a.put o.dst v) l' a' w' → SL P ops pend a l' a' w' := by
            intro pend' l' a' w' hsub hs k hk ok e hok he
            have := hs k (hsub k hk) ok e hok he
            rwa [getD_put_ne (fun x => (sepB_spec (hsep' k hk) hok).2 e x he)] at this
          by_cases h1 : opCls P o.op = 1
          · rw [if_pos h1] at hB'
            have hS1 : SL P ops (i :: pend) (a.put o.dst v) (l.setIfInBounds i true) (a.put o.dst v) w := by
              intro k hk ok e hok he
              rcases List.mem_cons.1 hk with rfl | hk
              · have : ok = o := Option.some.inj (hok.symm.trans ho)
                subst this
                rw [hdst] at he
                obtain rfl := Option.some.inj he
                rw [hv]
                exact .inr ((yld_put (sel k ok · · hok) hself).2 hy)
              · exact hS0 k hk ok e hok he
            refine wpAnyP_read ho hsel (rel := relB P ops i) (v := v) (by simp [relB, ho, hcl]) (fun l' hc' j hj hl => ?_) hself hins f l a w hc (Region.free_spec ho hf) hr'
              (wpAnyP_mono _ _ _ _ (fun l' a' w' _ hs => ⟨back (fun k hk => List.mem_cons_of_mem _ hk) hs, ?_⟩) (planT6_sound hsel ht r f _ _ _ w hB' (by rw [size_put]; exact hn) (closed_set hc hr') hS1 hpl))
            · cases hoj : ops[j]? with
              | none => simp [relB, hoj] at hj
              | some oj =>
                simp only [relB, hoj, Bool.and_eq_true] at hj
                exact tbl_listed ht hc' j hj.2 hl (Array.getElem?_eq_some_iff.1 hoj).1
            · have := hs i List.mem_cons_self o d ho hdst
              rwa [hv] at this
          · rw [if_neg h1] at hB'
            have h2 : opCls P o.op = 2 := by have := cls_le P o.op; omega
            have hyy : Yields P ops o v a := by
              rcases hy with ⟨hw, hrun⟩ | hy
              · exact .inl ⟨hw, (opCls_const h2 w _ _ hrun).2⟩
              · exact .inr hy
            exact wpAnyP_const ho hsel hins f l a w (Region.free_spec ho hf) hr' hyy
              (wpAnyP_mono _ _ _ _ (fun l' a' w' _ hs => back (fun k hk => hk) hs) (planT6_sound hsel ht r f _ _ _ w hB' (by rw [size_put]; exact hn) (closed_set hc hr') hS0 hpl))
/-! ### For the walk -/
inductive ST6 where
  | nil
  | seg (is : List Nat) (L : List Nat) (r : ST6)
  | fork (i : Nat) (L : List Nat) (r : ST6) (j : Nat) (M : List Nat) (s : ST6)
  | tri (i : Nat) (L : List Nat) (r : ST6) (j : Nat) (M : List Nat) (s : ST6) (k : Nat) (K : List Nat) (t : ST6)
def wpST6 (P : Program) (ops : Array Oper) (N : Act → World → Prop) : ST6 → Act → World → Prop
  | .nil => N
  | .seg is L r => fun a w => wpSg P ops (wpST6 P ops N r) is a w L
  | .fork i L r j M s => fun a w => wpSg P ops (wpST6 P ops N r) [i] a w L ∧ wpSg P ops (wpST6 P ops N s) [j] a w M
  | .tri i L r j M s k K t => fun a w => wpSg P ops (wpST6 P ops N r) [i] a w L ∧ wpSg P ops (wpST6 P ops N s) [j] a w M ∧ wpSg P ops (wpST6 P ops N t) [k] a w K
def segT6 : List Nat → List Nat → PT6 → PT6
  | [], _, r => r
  | [i], L, r => .one i L r
  | i :: is, L, r => .one i [] (segT6 is L r)
def planS6 : ST6 → PT6
  | .nil => .nil
  | .seg is L r => segT6 is L (planS6 r)
  | .fork i L r j M s => .two i L (planS6 r) j M (planS6 s)
  | .tri i L r j M s k K t => .three i L (planS6 r) j M (planS6 s) k K (planS6 t)
theorem segT6_sound {L : List Nat} {r : PT6} {R : Act → World → Prop} (hR : ∀ a w, R a w → wpT6 P ops N r a w) : ∀ (is : List Nat) (a : Act) (w : World), is ≠ [] → (∀ i ∈ is, (ops[i]?).isSome = true) →
    wpList P ops (Exit.then (fun a' w' => (∀ k ∈ L, Again P ops k a' w') ∧ R a' w') fun _ _ _ => False) (is.map fun i => ops.toList.getD i default) a w → wpT6 P ops N (segT6 is L r) a w
  | [], _, _, h0, _, _ => absurd rfl h0
  | [i], a, w, _, hall, h => step_sound hR (hall i (by simp)) h
  | i :: j :: is, a, w, _, hall, h => by
    obtain ⟨o, ho⟩ := Option.isSome_iff_exists.1 (hall i (by simp))
    rw [List.map_cons, getD_of_some ho] at h
    simp only [wpList] at h
    simp only [segT6, wpT6, wpStep, ho]
    have ih := fun a w => segT6_sound (L := L) (r := r) (R := R) hR (j :: is) a w (by simp) (fun x hx => hall x (List.mem_cons_of_mem _ hx))
    split
    · rename_i hw
      rw [if_pos hw] at h
      rcases h with h | ⟨_, _, _, h⟩
      · exact wp_nev (fun _ _ _ h => h) (fun ⟨_, _, h⟩ => h.elim) (Oper.wp_mono (fun a' w' h2 => ⟨fun _ hk => (by cases hk), ih _ _ h2⟩) h)
      · exact h.elim
    · rename_i hw
      rw [if_neg hw] at h
      exact ⟨fun _ hk => (by cases hk), ih _ _ h⟩
def stOK6 (ops : Array Oper) : ST6 → Bool
  | .nil => true
  | .seg is _ r => !is.isEmpty && is.all (fun i => (ops[i]?).isSome) && stOK6 ops r
  | .fork i _ r j _ s => (ops[i]?).isSome && (ops[j]?).isSome && stOK6 ops r && stOK6 ops s
  | .tri i _ r j _ s k _ t => (ops[i]?).isSome && (ops[j]?).isSome && (ops[k]?).isSome && stOK6 ops r && stOK6 ops s && stOK6 ops t
theorem st6_sound : ∀ (s : ST6) (a : Act) (w : World), stOK6 ops s = true → wpST6 P ops N s a w → wpT6 P ops N (planS6 s) a w
  | .nil, _, _, _, h => h
  | .seg is L r, a, w, hk, h => by
    simp only [stOK6, Bool.and_eq_true] at hk
    obtain ⟨⟨hne, hall⟩, hk'⟩ := hk
    exact segT6_sound (R := wpST6 P ops N r) (fun a w h => st6_sound r a w hk' h) is a w (by intro e; simp [e] at hne) (fun i hi => List.all_eq_true.1 hall i hi) (wpSg_all h)
  | .fork i L r j M s, a, w, hk, h => by
    simp only [stOK6, Bool.and_eq_true] at hk
    obtain ⟨⟨⟨h1, h2⟩, h3⟩, h4⟩ := hk
    exact ⟨step_sound (R := wpST6 P ops N r) (fun a w h => st6_sound r a w h3 h) h1 (wpSg_all h.1), step_sound (R := wpST6 P ops N s) (fun a w h => st6_sound s a w h4 h) h2 (wpSg_all h.2)⟩
  | .tri i L r j M s k K t, a, w, hk, h => by
    simp only [stOK6, Bool.and_eq_true] at hk
    obtain ⟨⟨⟨⟨⟨h1, h2⟩, h3⟩, h4⟩, h5⟩, h6⟩ := hk
    exact ⟨step_sound (R := wpST6 P ops N r) (fun a w h => st6_sound r a w h4 h) h1 (wpSg_all h.1), step_sound (R := wpST6 P ops N s) (fun a w h => st6_sound s a w h5 h) h2 (wpSg_all h.2.1), step_sound (R := wpST6 P ops N t) (fun a w h => st6_sound t a w h6 h) h3 (wpSg_all h.2.2)⟩
def regionT6 (P : Program) (ops : Array Oper) (nt : Nat) (s : ST6) : Bool :=
  Region.noSelect ops && tblOK ops (Region.before ops).toList && stOK6 ops s && planT6 P ops nt (planS6 s) ops.size (Array.replicate ops.size false) []
/-- THE LAW: a region that draws its order, by a plan that may fork. -/
theorem wp_region_fork6 {id : Nat} {Q : Exit → Act → World → Prop} {a : Act} {w : World} {ops : List Oper} (s : ST6) (nt : Nat) (hm : P.follows .mixedOrders = true) (hB : regionT6 P ops.toArray nt s = true) (hn : nt ≤ a.tmps.size)
    (h : ∀ N : Act → World → Prop, (∀ a w, Q .normal a w → N a w) → wpST6 P ops.toArray N s a w.drew) : (Code.region id ops.toArray true).wp P Q a w := by
  simp only [regionT6, Bool.and_eq_true] at hB
  obtain ⟨⟨⟨hsel, ht⟩, hk⟩, hp⟩ := hB
  have h0 := st6_sound s a w.drew hk (h (fun a w => Q .normal a w) fun _ _ h => h)
  have hc : Closed .any ops.toArray (Array.replicate ops.toArray.size false) := fun j oj _ hl => by
    have : ∀ n, (Array.replicate n false).getD j false = false := fun n => by
      rcases Nat.lt_or_ge j n with h | h
      · simp [h]
      · simp [h]
    rw [this] at hl
    cases hl
  have h1 := wpAnyP_forget _ _ _ _ (planT6_sound hsel ht (planS6 s) _ _ [] a w.drew hp hn hc (fun k hk => by cases hk) h0)
  exact wp_mono (wp_region_any hm h1) fun e a w he => by cases e <;> first | exact he | exact he.elim
end
end Go.Tt
/- Sets put in whatever row are one: plain laws. -/
namespace Go.Proofs.YtofikfkgiblblaaGreatDoor
open Go.RowKit Go.Lib Go.Tt
end Go.Proofs.YtofikfkgiblblaaGreatDoor
/- Layer 12, the plain law of CellKeeps: what Apply leaves may be, and can be told. No program in sight. -/
namespace Go.Proofs.YtofikfkgiblblaaGreatDoor
open Go.RowKit Go.Lib Go.Tt Go.Shelf
end Go.Proofs.YtofikfkgiblblaaGreatDoor
/- What came in, opened step by step, whatever its bounds: a reader. No program in sight. -/
namespace Go.Tt
open Go.RowKit Go.Lib
section
variable {P : Program} {w : World} {α : Type}
/-- A reader: texts are no longer than M, slices no longer than L. -/
structure Rdr (P : Program) (w : World) (M L : Nat) (R : TypeId → List Value → Prop) : Prop where
  bool : ∀ {t : TypeId} {cs : List Value}, P.underlying t = some .bool → R t cs → ∃ b, cs = [.bool b]
  int : ∀ {t : TypeId} {k : IntKind} {cs : List Value}, P.underlying t = some (.int k) → R t cs → ∃ n, cs = [.int k n] ∧ (Lit.int k n).wf = true
  string : ∀ {t : TypeId} {cs : List Value}, P.underlying t = some .string → R t cs → ∃ s, cs = [.string s] ∧ s.size ≤ M
  struct : ∀ {t : TypeId} {fs : Array Field} {cs : List Value}, P.underlying t = some (.struct fs) → R t cs → cs.length = P.cellsOf t ∧ ∀ f ∈ fs.toList, R f.type ((cs.drop f.offset).take (P.cellsOf f.type))
  slice : ∀ {t e : TypeId} {cs : List Value}, P.underlying t = some (.slice e) → R t cs → cs = [.slice none 0 0] ∨ ∃ a n c, cs = [.slice (some a) n c] ∧ n ≤ c ∧ c ≤ maxLen ∧ c * P.bytesOf e ≤ reachBytes ∧ n ≤ L ∧ ∀ i < n, ∃ xs, w.cells? 0 (a.add (i * P.cellsOf e)) (P.cellsOf e) = some xs ∧ R e xs
theorem Rdr.slices {M L : Nat} {R : TypeId → List Value → Prop} (r : Rdr P w M L R) {t e : TypeId} {v : Value} {E : Enc α} (p : α → Prop) (ht : P.underlying t = some (.slice e)) (hk : P.cellsOf e = E.k)
    (hR : ∀ cs, R e cs → ∃ x : α, E.f x = cs ∧ p x) (h : R t [v]) : ∃ l, RdS w E v l ∧ l.length * P.bytesOf e ≤ reachBytes ∧ l.length ≤ L ∧ ∀ x ∈ l, p x := by
  rcases r.slice ht h with hvc | ⟨a, n, c, hvc, hn, hc, hby, hL, hel⟩
  · simp at hvc
    subst hvc
    exact ⟨[], RdS.nil _ _, by simp, Nat.zero_le _, fun x hx => by cases hx⟩
  · simp at hvc
    subst hvc
    rw [hk] at hel
    have hel' : ∀ i : Fin n, ∃ x : α, p x ∧ ∀ j, j < E.k → w.cell? ((a.add (i.1 * E.k)).add j) = some ((E.f x).getD j undef) := fun i => by
      obtain ⟨xs, h1, h2⟩ := hel i.1 i.2
      obtain ⟨x, hx, hp⟩ := hR xs h2
      subst hx
      exact ⟨x, hp, (cells_at h1).2⟩
    let f : Fin n → α := fun i => Classical.choose (hel' i)
    have hf : ∀ i : Fin n, ∀ j, j < E.k → w.cell? ((a.add (i.1 * E.k)).add j) = some ((E.f (f i)).getD j undef) := fun i => (Classical.choose_spec (hel' i)).2
    have hp : ∀ i : Fin n, p (f i) := fun i => (Classical.choose_spec (hel' i)).1
    have hlen : (List.ofFn f).length = n := by simp
    refine ⟨List.ofFn f, ⟨some a, c, by rw [hlen], by omega, hc, (by intro h; cases h), fun hl => ?_⟩, by rw [hlen]; exact Nat.le_trans (Nat.mul_le_mul_right _ hn) hby, by rw [hlen]; exact hL, fun x hx => by
      obtain ⟨i, hi, rfl⟩ := List.getElem_of_mem hx
      rw [List.getElem_ofFn]
      exact hp _⟩
    rw [hlen] at hl
    obtain ⟨b, off, spot⟩ := a
    have hspot : spot = none := by
      have := World.cell?_spot (hf ⟨0, hl⟩ 0 E.pos)
      simpa [Addr.add] using this
    subst hspot
    refine ⟨b, off, rfl, fun m u hu => ?_⟩
    have hm := (List.getElem?_eq_some_iff.1 hu).1
    rw [E.flat_len, hlen] at hm
    have hk0 := E.pos
    have hi : m / E.k < n := (Nat.div_lt_iff_lt_mul hk0).2 hm
    have hj : m % E.k < E.k := Nat.mod_lt _ hk0
    have e : m / E.k * E.k + m % E.k = m := by rw [Nat.mul_comm]; exact Nat.div_add_mod m E.k
    have h1 := hf ⟨m / E.k, hi⟩ (m % E.k) hj
    rw [Addr.add_lit, Addr.add_lit, Nat.add_assoc, e] at h1
    rw [h1]
    rw [← e, E.flat_get (by rw [hlen]; exact hi) hj] at hu
    rw [List.getElem_ofFn] at hu
    simp [List.getD, hu]
theorem Rdr.int1 {M L : Nat} {R : TypeId → List Value → Prop} (r : Rdr P w M L R) {t : TypeId} {x : Value} (ht : P.underlying t = some (.int .i64)) (h : R t [x]) : ∃ n, x = .int .i64 n := by
  obtain ⟨n, h, -⟩ := r.int ht h
  exact ⟨n, by simpa using h⟩
theorem Rdr.str1 {M L : Nat} {R : TypeId → List Value → Prop} (r : Rdr P w M L R) {t : TypeId} {x : Value} (ht : P.underlying t = some .string) (h : R t [x]) : ∃ s, x = .string s ∧ s.size ≤ M := by
  obtain ⟨n, h, hs⟩ := r.string ht h
  exact ⟨n, by simpa using h, hs⟩
theorem Rdr.bool1 {M L : Nat} {R : TypeId → List Value → Prop} (r : Rdr P w M L R) {t : TypeId} {x : Value} (ht : P.underlying t = some .bool) (h : R t [x]) : ∃ b, x = .bool b := by
  obtain ⟨n, h⟩ := r.bool ht h
  exact ⟨n, by simpa using h⟩
end
end Go.Tt
/- Arguments of the sets' laws, opened. -/
namespace Go.Proofs.YtofikfkgiblblaaGreatDoor
open Go.RowKit Go.Lib Go.Tt Go.WideShapes
end Go.Proofs.YtofikfkgiblblaaGreatDoor
/- A cell, a dot that came in, opened. -/
namespace Go.Proofs.YtofikfkgiblblaaGreatDoor
open Go.RowKit Go.Lib Go.Tt Go.WideShapes
set_option maxRecDepth 10000
theorem c_int : Tryz.prog.cellsOf 3 = 1 := by kernel_rfl
theorem c_str : Tryz.prog.cellsOf 9 = 1 := by kernel_rfl
theorem c_bool : Tryz.prog.cellsOf 4 = 1 := by kernel_rfl
theorem c_dot : Tryz.prog.cellsOf 32 = 2 := by kernel_rfl
theorem c_stamp : Tryz.prog.cellsOf 23 = 2 := by kernel_rfl
theorem c_pair : Tryz.prog.cellsOf 25 = 2 := by kernel_rfl
theorem c_en : Tryz.prog.cellsOf 62 = 3 := by kernel_rfl
theorem c_el : Tryz.prog.cellsOf 59 = 5 := by kernel_rfl
theorem c_cell : Tryz.prog.cellsOf 30 = 10 := by kernel_rfl
theorem c_ens : Tryz.prog.cellsOf 26 = 1 := by kernel_rfl
theorem c_els : Tryz.prog.cellsOf 27 = 1 := by kernel_rfl
theorem c_ints : Tryz.prog.cellsOf 28 = 1 := by kernel_rfl
end Go.Proofs.YtofikfkgiblblaaGreatDoor
/- A cell, an operation that came in, opened by whatever reader. -/
namespace Go.Proofs.YtofikfkgiblblaaGreatDoor
open Go.RowKit Go.Lib Go.Tt Go.WideShapes
set_option maxRecDepth 10000
section
variable {w : World} {M L : Nat} {R : TypeId → List Value → Prop}
theorem two_of (r : Rdr Tryz.prog w M L R) {t : TypeId} {cs : List Value} (h : R t cs) (ht : t = 23 ∨ t = 25 ∨ t = 32) : ∃ d : Int × Int, cs = [.int .i64 d.1, .int .i64 d.2] := by
  have key : ∀ {fs : Array Field}, Tryz.prog.underlying t = some (.struct fs) → Tryz.prog.cellsOf t = 2 → (∃ f ∈ fs.toList, f.offset = 0 ∧ f.type = 3) → (∃ f ∈ fs.toList, f.offset = 1 ∧ f.type = 3) → ∃ d : Int × Int, cs = [.int .i64 d.1, .int .i64 d.2] := by
    intro fs hu hc ⟨f, hf, f0, ft⟩ ⟨g, hg, g0, gt⟩
    obtain ⟨hl, hs⟩ := r.struct hu h
    rw [hc] at hl
    match cs, hl with
    | [x, y], _ =>
      have h0 := hs f hf
      have h1 := hs g hg
      rw [f0, ft, c_int] at h0
      rw [g0, gt, c_int] at h1
      obtain ⟨a, rfl⟩ := r.int1 Tryz.underlying3 h0
      obtain ⟨b, rfl⟩ := r.int1 Tryz.underlying3 h1
      exact ⟨(a, b), rfl⟩
  rcases ht with rfl | rfl | rfl
  · exact key Tryz.underlying23 c_stamp ⟨_, List.mem_cons_self, rfl, rfl⟩ ⟨_, List.mem_cons_of_mem _ List.mem_cons_self, rfl, rfl⟩
  · exact key Tryz.underlying25 c_pair ⟨_, List.mem_cons_self, rfl, rfl⟩ ⟨_, List.mem_cons_of_mem _ List.mem_cons_self, rfl, rfl⟩
  · exact key Tryz.underlying32 c_dot ⟨_, List.mem_cons_self, rfl, rfl⟩ ⟨_, List.mem_cons_of_mem _ List.mem_cons_self, rfl, rfl⟩
theorem en_of (r : Rdr Tryz.prog w M L R) {cs : List Value} (h : R 62 cs) : ∃ x : En, eEn.f x = cs ∧ x.2.2.size ≤ M := by
  obtain ⟨hl, hf⟩ := r.struct Tryz.underlying62 h
  rw [c_en] at hl
  match cs, hl with
  | [x, y, z], _ =>
    have h0 := hf _ (List.mem_cons_self)
    have h1 := hf _ (List.mem_cons_of_mem _ List.mem_cons_self)
    simp only [c_dot, c_str] at h0 h1
    obtain ⟨d, hd⟩ := two_of r h0 (.inr (.inr rfl))
    obtain ⟨s, rfl, hs⟩ := r.str1 Tryz.underlying9 h1
    have e : [x, y] = [Value.int .i64 d.1, .int .i64 d.2] := hd
    simp only [List.cons.injEq, and_true] at e
    exact ⟨(d.1, d.2, s), by rw [e.1, e.2]; rfl, hs⟩
theorem el_of (r : Rdr Tryz.prog w M L R) {cs : List Value} (h : R 59 cs) : ∃ x : El, eEl.f x = cs ∧ x.2.2.2.1.size ≤ M := by
  obtain ⟨hl, hf⟩ := r.struct Tryz.underlying59 h
  rw [c_el] at hl
  match cs, hl with
  | [x, y, z, u, t], _ =>
    have h0 := hf _ (List.mem_cons_self)
    have h1 := hf _ (List.mem_cons_of_mem _ List.mem_cons_self)
    have h2 := hf _ (List.mem_cons_of_mem _ (List.mem_cons_of_mem _ List.mem_cons_self))
    have h3 := hf _ (List.mem_cons_of_mem _ (List.mem_cons_of_mem _ (List.mem_cons_of_mem _ List.mem_cons_self)))
    simp only [c_dot, c_int, c_str, c_bool] at h0 h1 h2 h3
    obtain ⟨d, hd⟩ := two_of r h0 (.inr (.inr rfl))
    obtain ⟨n, rfl⟩ := r.int1 Tryz.underlying3 h1
    obtain ⟨s, rfl, hs⟩ := r.str1 Tryz.underlying9 h2
    obtain ⟨b, rfl⟩ := r.bool1 Tryz.underlying4 h3
    have e : [x, y] = [Value.int .i64 d.1, .int .i64 d.2] := hd
    simp only [List.cons.injEq, and_true] at e
    exact ⟨(d.1, d.2, n, s, b), by rw [e.1, e.2]; rfl, hs⟩
theorem dt_of (r : Rdr Tryz.prog w M L R) {cs : List Value} (h : R 32 cs) : ∃ x : Dt, eDt.f x = cs ∧ True := by
  obtain ⟨d, rfl⟩ := two_of r h (.inr (.inr rfl))
  exact ⟨d, rfl, trivial⟩
theorem in_of (r : Rdr Tryz.prog w M L R) {cs : List Value} (h : R 3 cs) : ∃ x : Int, eInt.f x = cs ∧ True := by
  obtain ⟨n, rfl, -⟩ := r.int Tryz.underlying3 h
  exact ⟨n, rfl, trivial⟩
/-- Bounds of a cell that came in. -/
structure CellM (M L : Nat) (c : CellV) : Prop where
  v : c.value.size ≤ M
  e : ∀ x ∈ c.ents, x.2.2.size ≤ M
  l : ∀ x ∈ c.elems, x.2.2.2.1.size ≤ M
  ne : c.ents.length ≤ L
  nl : c.elems.length ≤ L
  ns : c.seen.length ≤ L
theorem CellM.z {c : CellV} (h : CellM M L c) (hM : M ≤ 2 ^ 63 - 1) : CellZ c := ⟨Nat.le_trans h.v hM, fun x hx => Nat.le_trans (h.e x hx) hM, fun x hx => Nat.le_trans (h.l x hx) hM⟩
theorem cellR_of (r : Rdr Tryz.prog w M L R) {cs : List Value} (h : R 30 cs) : ∃ c ve vl vs, cs = (cval c ve vl vs).cells.toList ∧ CellR w c ve vl vs ∧ CellB c ∧ CellM M L c := by
  obtain ⟨hl, hf⟩ := r.struct Tryz.underlying30 h
  rw [c_cell] at hl
  match cs, hl with
  | [x0, x1, x2, x3, x4, x5, x6, x7, x8, x9], _ =>
    have h0 := hf _ List.mem_cons_self
    have h1 := hf _ (List.mem_cons_of_mem _ List.mem_cons_self)
    have h2 := hf _ (List.mem_cons_of_mem _ (List.mem_cons_of_mem _ List.mem_cons_self))
    have h3 := hf _ (List.mem_cons_of_mem _ (List.mem_cons_of_mem _ (List.mem_cons_of_mem _ List.mem_cons_self)))
    have h4 := hf _ (List.mem_cons_of_mem _ (List.mem_cons_of_mem _ (List.mem_cons_of_mem _ (List.mem_cons_of_mem _ List.mem_cons_self))))
    have h5 := hf _ (List.mem_cons_of_mem _ (List.mem_cons_of_mem _ (List.mem_cons_of_mem _ (List.mem_cons_of_mem _ (List.mem_cons_of_mem _ List.mem_cons_self)))))
    have h6 := hf _ (List.mem_cons_of_mem _ (List.mem_cons_of_mem _ (List.mem_cons_of_mem _ (List.mem_cons_of_mem _ (List.mem_cons_of_mem _ (List.mem_cons_of_mem _ List.mem_cons_self))))))
    have h7 := hf _ (List.mem_cons_of_mem _ (List.mem_cons_of_mem _ (List.mem_cons_of_mem _ (List.mem_cons_of_mem _ (List.mem_cons_of_mem _ (List.mem_cons_of_mem _ (List.mem_cons_of_mem _ List.mem_cons_self)))))))
    simp only [c_int, c_bool, c_stamp, c_str, c_pair, c_ens, c_els, c_ints] at h0 h1 h2 h3 h4 h5 h6 h7
    clear hf h
    obtain ⟨k, rfl⟩ := r.int1 Tryz.underlying3 h0
    obtain ⟨b, rfl⟩ := r.bool1 Tryz.underlying4 h1
    obtain ⟨st, hs⟩ := two_of r h2 (.inl rfl)
    obtain ⟨s, rfl, hsz⟩ := r.str1 Tryz.underlying9 h3
    obtain ⟨nm, hn⟩ := two_of r h4 (.inr (.inl rfl))
    have hs' : [x2, x3] = [Value.int .i64 st.1, .int .i64 st.2] := hs
    have hn' : [x5, x6] = [Value.int .i64 nm.1, .int .i64 nm.2] := hn
    simp only [List.cons.injEq, and_true] at hs' hn'
    obtain ⟨rfl, rfl⟩ := hs'
    obtain ⟨rfl, rfl⟩ := hn'
    obtain ⟨E, hE, bE, lE, pE⟩ := r.slices (E := eEn) (fun x => x.2.2.size ≤ M) Tryz.underlying26 c_en (fun _ h => en_of r h) h5
    obtain ⟨Q, hQ, bQ, lQ, pQ⟩ := r.slices (E := eEl) (fun x => x.2.2.2.1.size ≤ M) Tryz.underlying27 c_el (fun _ h => el_of r h) h6
    obtain ⟨I, hI, bI, lI, -⟩ := r.slices (E := eInt) (fun _ => True) Tryz.underlying28 c_int (fun _ h => in_of r h) h7
    rw [show Tryz.prog.bytesOf 62 = 32 by kernel_rfl] at bE
    rw [show Tryz.prog.bytesOf 59 = 48 by kernel_rfl] at bQ
    rw [show Tryz.prog.bytesOf 3 = 8 by kernel_rfl] at bI
    exact ⟨⟨k, b, st, s, nm, E, Q, I⟩, x7, x8, x9, rfl, ⟨hE, hQ, hI⟩, ⟨bE, bQ, bI⟩, ⟨hsz, pE, pQ, lE, lQ, lI⟩⟩
/-- Bounds of an operation that came in. -/
structure OpM (M L : Nat) (o : OpV) : Prop where
  type : o.type.size ≤ M
  id : o.id.size ≤ M
  field : o.field.size ≤ M
  value : o.value.size ≤ M
  deps : o.deps.length ≤ L
  dots : o.dots.length ≤ L
  bd : o.deps.length * 8 ≤ reachBytes
  bo : o.dots.length * 16 ≤ reachBytes
theorem OpM.b {o : OpV} (h : OpM M L o) (hM : M ≤ 2 ^ 63 - 1) : OpB o := ⟨Nat.le_trans h.type hM, Nat.le_trans h.id hM, Nat.le_trans h.field hM, Nat.le_trans h.value hM⟩
theorem c_op : Tryz.prog.cellsOf 35 = 14 := by kernel_rfl
theorem c_dts : Tryz.prog.cellsOf 33 = 1 := by kernel_rfl
theorem opR_of (r : Rdr Tryz.prog w M L R) {cs : List Value} (h : R 35 cs) : ∃ o vd vo, cs = (opval o vd vo).cells.toList ∧ OpR w o vd vo ∧ OpM M L o := by
  obtain ⟨hl, hf⟩ := r.struct Tryz.underlying35 h
  rw [c_op] at hl
  match cs, hl with
  | [x0, x1, x2, x3, x4, x5, x6, x7, x8, x9, xa, xb, xc, xd], _ =>
    have h0 := hf _ List.mem_cons_self
    have h1 := hf _ (List.mem_cons_of_mem _ List.mem_cons_self)
    have h2 := hf _ (List.mem_cons_of_mem _ (List.mem_cons_of_mem _ List.mem_cons_self))
    have h3 := hf _ (List.mem_cons_of_mem _ (List.mem_cons_of_mem _ (List.mem_cons_of_mem _ List.mem_cons_self)))
    have h4 := hf _ (List.mem_cons_of_mem _ (List.mem_cons_of_mem _ (List.mem_cons_of_mem _ (List.mem_cons_of_mem _ List.mem_cons_self))))
    have h5 := hf _ (List.mem_cons_of_mem _ (List.mem_cons_of_mem _ (List.mem_cons_of_mem _ (List.mem_cons_of_mem _ (List.mem_cons_of_mem _ List.mem_cons_self)))))
    have h6 := hf _ (List.mem_cons_of_mem _ (List.mem_cons_of_mem _ (List.mem_cons_of_mem _ (List.mem_cons_of_mem _ (List.mem_cons_of_mem _ (List.mem_cons_of_mem _ List.mem_cons_self))))))
    have h7 := hf _ (List.mem_cons_of_mem _ (List.mem_cons_of_mem _ (List.mem_cons_of_mem _ (List.mem_cons_of_mem _ (List.mem_cons_of_mem _ (List.mem_cons_of_mem _ (List.mem_cons_of_mem _ List.mem_cons_self)))))))
    have h8 := hf _ (List.mem_cons_of_mem _ (List.mem_cons_of_mem _ (List.mem_cons_of_mem _ (List.mem_cons_of_mem _ (List.mem_cons_of_mem _ (List.mem_cons_of_mem _ (List.mem_cons_of_mem _ (List.mem_cons_of_mem _ List.mem_cons_self))))))))
    have h9 := hf _ (List.mem_cons_of_mem _ (List.mem_cons_of_mem _ (List.mem_cons_of_mem _ (List.mem_cons_of_mem _ (List.mem_cons_of_mem _ (List.mem_cons_of_mem _ (List.mem_cons_of_mem _ (List.mem_cons_of_mem _ (List.mem_cons_of_mem _ List.mem_cons_self)))))))))
    have ha := hf _ (List.mem_cons_of_mem _ (List.mem_cons_of_mem _ (List.mem_cons_of_mem _ (List.mem_cons_of_mem _ (List.mem_cons_of_mem _ (List.mem_cons_of_mem _ (List.mem_cons_of_mem _ (List.mem_cons_of_mem _ (List.mem_cons_of_mem _ (List.mem_cons_of_mem _ List.mem_cons_self))))))))))
    simp only [c_int, c_str, c_dot, c_pair, c_dts, c_ints] at h0 h1 h2 h3 h4 h5 h6 h7 h8 h9 ha
    clear hf h
    obtain ⟨dt, hd⟩ := two_of r h0 (.inr (.inr rfl))
    obtain ⟨tm, rfl⟩ := r.int1 Tryz.underlying3 h1
    obtain ⟨I, hI, bI, lI, -⟩ := r.slices (E := eInt) (fun _ => True) Tryz.underlying28 c_int (fun _ h => in_of r h) h2
    obtain ⟨k, rfl⟩ := r.int1 Tryz.underlying3 h3
    obtain ⟨s4, rfl, z4⟩ := r.str1 Tryz.underlying9 h4
    obtain ⟨s5, rfl, z5⟩ := r.str1 Tryz.underlying9 h5
    obtain ⟨s6, rfl, z6⟩ := r.str1 Tryz.underlying9 h6
    obtain ⟨s7, rfl, z7⟩ := r.str1 Tryz.underlying9 h7
    obtain ⟨nm, hn⟩ := two_of r h8 (.inr (.inl rfl))
    obtain ⟨rf, hr⟩ := two_of r h9 (.inr (.inr rfl))
    obtain ⟨D, hD, bD, lD, -⟩ := r.slices (E := eDt) (fun _ => True) Tryz.underlying33 c_dot (fun _ h => dt_of r h) ha
    have hd' : [x0, x1] = [Value.int .i64 dt.1, .int .i64 dt.2] := hd
    have hn' : [x9, xa] = [Value.int .i64 nm.1, .int .i64 nm.2] := hn
    have hr' : [xb, xc] = [Value.int .i64 rf.1, .int .i64 rf.2] := hr
    simp only [List.cons.injEq, and_true] at hd' hn' hr'
    obtain ⟨rfl, rfl⟩ := hd'
    obtain ⟨rfl, rfl⟩ := hn'
    obtain ⟨rfl, rfl⟩ := hr'
    rw [show Tryz.prog.bytesOf 32 = 16 by kernel_rfl] at bD
    rw [show Tryz.prog.bytesOf 3 = 8 by kernel_rfl] at bI
    exact ⟨⟨dt, tm, I, k, s4, s5, s6, s7, nm, rf, D⟩, x3, xd, rfl, ⟨hI, hD⟩, ⟨z4, z5, z6, z7, lI, lD, bI, bD⟩⟩
theorem cellA_of {base : Nat} {v : Value} (r : Rdr Tryz.prog w M L R) (ok : Value.okWide Tryz.prog w .any base 30 v) (h : R 30 v.cells.toList) : ∃ c ve vl vs, v = cval c ve vl vs ∧ CellR w c ve vl vs ∧ CellB c ∧ CellM M L c := by
  obtain ⟨cs, rfl, hsz⟩ := okWide_struct Tryz.underlying30 ok
  obtain ⟨c, ve, vl, vs, e, h1, h2, h3⟩ := cellR_of r h
  have e' : cs.toList = (cellCells c ve vl vs).toList := e
  exact ⟨c, ve, vl, vs, congrArg Value.agg (Array.toList_inj.1 e'), h1, h2, h3⟩
theorem opA_of {base : Nat} {v : Value} (r : Rdr Tryz.prog w M L R) (ok : Value.okWide Tryz.prog w .any base 35 v) (h : R 35 v.cells.toList) : ∃ o vd vo, v = opval o vd vo ∧ OpR w o vd vo ∧ OpM M L o := by
  obtain ⟨cs, rfl, hsz⟩ := okWide_struct Tryz.underlying35 ok
  obtain ⟨o, vd, vo, e, h1, h2⟩ := opR_of r h
  have e' : cs.toList = (opCells o vd vo).toList := e
  exact ⟨o, vd, vo, congrArg Value.agg (Array.toList_inj.1 e'), h1, h2⟩
end
end Go.Proofs.YtofikfkgiblblaaGreatDoor
/- The second form's reader: what came in is of bulk at most 1048576. -/
namespace Go.Proofs.YtofikfkgiblblaaGreatDoor
open Go.RowKit Go.Lib Go.Tt Go.WideShapes
def RdU (w : World) (t : TypeId) (cs : List Value) : Prop :=
  ∃ (H : Type) (enc : TypeId × Value → H) (fuel : Nat) (d : DataW H) (ps : List MemPlace), DataW.trod enc Tryz.prog w 0 (fun _ => true) true fuel t cs = some (d, ps) ∧ (∀ n ∈ d.weights Tryz.prog t, n ≤ reachBytes) ∧ Rows.uptoBulk d ≤ 1048576
theorem RdU.rd {w : World} {t : TypeId} {cs : List Value} (h : RdU w t cs) : Rd Tryz.prog w t cs := by
  obtain ⟨H, enc, fuel, d, ps, h, hw, -⟩ := h
  exact ⟨H, enc, fuel, d, ps, h, hw⟩
theorem bulk_pos {H : Type} (d : DataW H) : 1 ≤ Rows.uptoBulk d := by
  cases d with
  | lit l => cases l <;> simp [Rows.uptoBulk]
  | nil => simp [Rows.uptoBulk]
  | ptr d => simp [Rows.uptoBulk]
  | slice a b => simp [Rows.uptoBulk]
  | agg a => simp [Rows.uptoBulk]
  | iface a b => simp [Rows.uptoBulk]
  | map a => simp [Rows.uptoBulk]
  | held a => simp [Rows.uptoBulk]
theorem bulk_len {H : Type} : ∀ (l : List (DataW H)), l.length ≤ Rows.uptoBulkAll l
  | [] => by simp [Rows.uptoBulkAll]
  | d :: l => by
    have h1 := bulk_pos d
    have h2 := bulk_len l
    simp only [Rows.uptoBulkAll, List.length_cons]
    omega
theorem RdU.string {w : World} {t : TypeId} {cs : List Value} (ht : Tryz.prog.underlying t = some .string) (h : RdU w t cs) : ∃ s, cs = [.string s] ∧ s.size ≤ 1048576 := by
  obtain ⟨H, enc, fuel, d, ps, h, hw, hb⟩ := h
  cases fuel with
  | zero => simp [DataW.trod] at h
  | succ f =>
    unfold DataW.trod at h
    rw [ht] at h
    match cs, h with
    | [.string s], h =>
      simp only at h
      split at h
      · next hk =>
        simp only [Option.some.injEq, Prod.mk.injEq] at h
        obtain ⟨rfl, rfl⟩ := h
        refine ⟨s, rfl, ?_⟩
        simp only [Rows.uptoBulk] at hb
        have e : s.data.toList.length = s.size := Array.length_toList
        omega
      · cases h
theorem RdU.struct {w : World} {t : TypeId} {fs : Array Field} {cs : List Value} (ht : Tryz.prog.underlying t = some (.struct fs)) (h : RdU w t cs) :
    cs.length = Tryz.prog.cellsOf t ∧ ∀ f ∈ fs.toList, RdU w f.type ((cs.drop f.offset).take (Tryz.prog.cellsOf f.type)) := by
  obtain ⟨H, enc, fuel, d, ps, h, hw, hb⟩ := h
  cases fuel with
  | zero => simp [DataW.trod] at h
  | succ f =>
    unfold DataW.trod at h
    rw [ht] at h
    simp only at h
    split at h
    · next hl =>
      obtain ⟨r, hr, he⟩ := Option.map_eq_some_iff.1 h
      simp only [Prod.mk.injEq] at he
      obtain ⟨rfl, _⟩ := he
      refine ⟨hl, fun x hx => ?_⟩
      obtain ⟨i, hi, rfl⟩ := List.getElem_of_mem hx
      obtain ⟨⟨y, q⟩, hy1, hy2⟩ := (rd_mapM hr).2 i hi
      refine ⟨H, enc, _, y, q, hy2, fun n hn => hw n ?_, ?_⟩
      · simp only [DataW.weights, ht]
        exact DataW.weights_mem_each (j := i) (by simp [List.getElem?_eq_getElem hi]) (by simp [hy1]) n hn
      · simp only [Rows.uptoBulk] at hb
        have hm := bulk_part (List.mem_map.2 ⟨(y, q), List.mem_of_getElem? hy1, rfl⟩ : y ∈ r.map (·.1))
        omega
    · cases h
theorem RdU.slice {w : World} {t e : TypeId} {cs : List Value} (ht : Tryz.prog.underlying t = some (.slice e)) (h : RdU w t cs) :
    cs = [.slice none 0 0] ∨ ∃ a n c, cs = [.slice (some a) n c] ∧ n ≤ c ∧ c ≤ maxLen ∧ c * Tryz.prog.bytesOf e ≤ reachBytes ∧ n ≤ 1048576 ∧ ∀ i < n, ∃ xs, w.cells? 0 (a.add (i * Tryz.prog.cellsOf e)) (Tryz.prog.cellsOf e) = some xs ∧ RdU w e xs := by
  obtain ⟨H, enc, fuel, d, ps, h, hw, hb⟩ := h
  cases fuel with
  | zero => simp [DataW.trod] at h
  | succ f =>
    unfold DataW.trod at h
    rw [ht] at h
    match cs, h with
    | [.slice none 0 0], _ => exact .inl rfl
    | [.slice (some a) n c], h =>
      simp only at h
      split at h
      · next hk =>
        obtain ⟨els, he, h⟩ := Option.bind_eq_some_iff.1 h
        rw [if_true] at h
        obtain ⟨rest, hrest, h⟩ := Option.map_eq_some_iff.1 h
        simp only [Prod.mk.injEq] at h
        obtain ⟨rfl, _⟩ := h
        have l1 := (rd_mapM he).1
        have l2 := (rd_mapM hrest).1
        simp only [List.length_range] at l1 l2
        have hbytes : c * Tryz.prog.bytesOf e ≤ reachBytes := by
          have := hw ((els.length + rest.length) * Tryz.prog.bytesOf e) (by simp [DataW.weights, ht])
          rwa [l1, l2, Nat.add_sub_cancel' hk.2.1] at this
        simp only [Rows.uptoBulk] at hb
        have hn : n ≤ 1048576 := by
          have := bulk_len (els.map (·.1))
          rw [List.length_map, l1] at this
          omega
        refine .inr ⟨a, n, c, rfl, hk.2.1, hk.2.2, hbytes, hn, fun i hi => ?_⟩
        obtain ⟨⟨y, q⟩, hy1, hy2⟩ := (rd_mapM he).2 i (by simpa using hi)
        rw [List.getElem_range] at hy2
        obtain ⟨xs, hx, hz⟩ := Option.bind_eq_some_iff.1 hy2
        refine ⟨xs, hx, H, enc, _, y, q, hz, fun m hm => hw m ?_, ?_⟩
        · simp only [DataW.weights, ht, List.mem_cons, List.mem_append]
          exact .inr (.inl (weightsAll_mem hm (i := i) (by simp [hy1])))
        · have hm := bulk_part (List.mem_map.2 ⟨(y, q), List.mem_of_getElem? hy1, rfl⟩ : y ∈ els.map (·.1))
          omega
      · cases h
theorem rdr_u (w : World) : Rdr Tryz.prog w 1048576 1048576 (RdU w) where
  bool ht h := h.rd.bool ht
  int ht h := h.rd.int ht
  string ht h := h.string ht
  struct ht h := h.struct ht
  slice ht h := h.slice ht
/-- An argument of the row, within the bulk. -/
theorem rdu_of {w : World} {H : Type} {enc : TypeId × Value → H} {ts : List TypeId} {ds : List (DataW H)} {j : Nat} {t : TypeId} {v : Value} {d : DataW H} {ps : List MemPlace} (h : DataW.Trod enc Tryz.prog w 0 (fun _ => true) true t v d ps)
    (hsz : (DataW.weightsEach Tryz.prog ts ds).all (· ≤ reachBytes) = true) (hk : Rows.uptoSmall H ds = true) (ht : ts[j]? = some t) (hd : ds[j]? = some d) : RdU w t v.cells.toList := by
  obtain ⟨fuel, h⟩ := h
  have h1 : Rows.uptoBulkAll ds ≤ 1048576 := of_decide_eq_true hk
  have h2 := bulk_part (List.mem_of_getElem? hd)
  exact ⟨H, enc, fuel, d, ps, h, fun n hn => by simpa using List.all_eq_true.1 hsz n (DataW.weights_mem_each ht hd n hn), by omega⟩
end Go.Proofs.YtofikfkgiblblaaGreatDoor

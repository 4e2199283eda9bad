/- Merged: OpM5. -/
import Derived.Test.YtofikfkgiblblaaGreatDoorQ30
/- Layer 11: op.May. -/
namespace Go.Proofs.YtofikfkgiblblaaGreatDoor
set_option linter.unusedVariables false
set_option linter.unusedSimpArgs false
set_option linter.unusedVariables false
set_option linter.unusedSimpArgs false
open Go.RowKit Go.Lib Go.Tt
/-- May an operation be? -/
def opMay (o : OpV) (n : Int) : Bool :=
  dotMayN o.dot n && (timeMay o.time && (vecMay o.deps n && (decide (o.deps.getD o.dot.1.toNat 0 = o.dot.2 - 1) && (nameMay o.type && (nameMay o.field && (idMay o.id && (ownMay o && opBare o)))))))
set_option maxHeartbeats 2000000 in
set_option maxRecDepth 100000 in
theorem opMay_ok {w : World} {o : OpV} {vd vo : Value} (hR : OpR w o vd vo) (hb : OpB o) (n : Int) :
    Calls Tryz.prog 27 #[opval o vd vo, .int .i64 n] w fun e w' => e = .returned (.bool (opMay o n)) ∧ Frm No w w' := by
  obtain ⟨ad, cd, rfl⟩ := hR.d.sh
  obtain ⟨ao, co, rfl⟩ := hR.s.sh
  obtain ⟨B, hBq⟩ : ∃ B : Bool, Hid (B = opMay o n) := ⟨_, Lib.hid rfl⟩
  rw [← hBq.out]
  unfold opval opCells
  have HR := Lib.hid hR
  have HB := Lib.hid hb
  clear hR hb
  have B0 := heap_alloc_new w (.cells #[.int .i64 o.dot.1, .int .i64 o.dot.2, .int .i64 o.time, .slice ad o.deps.length cd, .int .i64 o.kind, .string o.type, .string o.id, .string o.field, .string o.value, .int .i64 o.num.1, .int .i64 o.num.2, .int .i64 o.ref.1, .int .i64 o.ref.2, .slice ao o.dots.length co] 35 (0, 0))
  have F0 : Frm No w ((w.alloc (.cells #[.int .i64 o.dot.1, .int .i64 o.dot.2, .int .i64 o.time, .slice ad o.deps.length cd, .int .i64 o.kind, .string o.type, .string o.id, .string o.field, .string o.value, .int .i64 o.num.1, .int .i64 o.num.2, .int .i64 o.ref.1, .int .i64 o.ref.2, .slice ao o.dots.length co] 35 (0, 0))).drewN 1) := ((Frm.refl No w).al _).dr 1
  have HM := Lib.hid (fun W => dotMay_ok o.dot n W)
  have HT := Lib.hid (fun W => time_ok o.time W)
  have HV := Lib.hid (fun W (f : Frm No w W) => vecMay_ok (HR.out.no f).d n)
  go_enter Tryz.func27, Tryz.ntmps27
  go_wp2_with (fail)
  refine wp_region_plan [([0, 1, 2, 3, 4, 5, 6, 7, 8, 9, 10, 11, 12, 13, 14, 15, 16, 17, 18, 19, 20, 21, 22, 23, 24, 25, 26, 27, 28, 29], [25, 23, 20]), ([30, 31], [])] 56 (by kernel_rfl) (by kernel_rfl) (by simp) ?_
  intro N hN
  simp only [wpSegs, List.map_cons, List.map_nil, List.getD_cons_zero, List.getD_cons_succ]
  go_wp2_with (fail)
  refine (HM.out _).mono ?_
  rintro e w1 ⟨rfl, f1⟩
  have F1 := F0.trans f1
  have B1 : w1.heap[w.heap.size]? = some (.cells #[.int .i64 o.dot.1, .int .i64 o.dot.2, .int .i64 o.time, .slice ad o.deps.length cd, .int .i64 o.kind, .string o.type, .string o.id, .string o.field, .string o.value, .int .i64 o.num.1, .int .i64 o.num.2, .int .i64 o.ref.1, .int .i64 o.ref.2, .slice ao o.dots.length co] 35 (0, 0)) := f1.obj B0 id
  clear f1 F0 B0 HM
  rcases h1 : dotMayN o.dot n with _ | _
  · have hv : Hid (B = false) := Lib.hid (by rw [hBq.out]; unfold opMay; rw [h1]; rfl)
    go_wp2_with (fail)
    refine ⟨again_cons (again_off rfl rfl) (again_cons (again_off rfl rfl) (again_cons (again_off rfl rfl) again_nil)), ?_⟩
    go_wp2_with (fail)
    go_ret
    exact ⟨congrArg (fun b => Ending.returned (Value.bool b)) hv.out.symm, F1⟩
  have H1 := Lib.hid h1
  obtain ⟨q0, q1, q2, q3, q4, q5, q6, q7, q8, q9, q10, q11, q12, q13⟩ := obj14 B1
  have nb := lt_of_block B1
  go_wp2_with (fail)
  refine (HT.out _).mono ?_
  rintro e w' ⟨rfl, rfl⟩
  clear HT
  rcases h2 : timeMay o.time with _ | _
  · have hv : Hid (B = false) := Lib.hid (by rw [hBq.out]; unfold opMay; rw [H1.out, h2]; rfl)
    go_wp2_with (fail)
    refine ⟨again_cons (again_off rfl rfl) (again_cons (again_off rfl rfl) (again_cons (again_off rfl rfl) again_nil)), ?_⟩
    go_wp2_with (fail)
    go_ret
    exact ⟨congrArg (fun b => Ending.returned (Value.bool b)) hv.out.symm, F1⟩
  have H2 := Lib.hid h2
  clear h1
  go_wp2_with (fail)
  refine (HV.out _ F1).mono ?_
  rintro e w' ⟨rfl, rfl⟩
  rcases h3 : vecMay o.deps n with _ | _
  · have hv : Hid (B = false) := Lib.hid (by rw [hBq.out]; unfold opMay; rw [H1.out, H2.out, h3]; rfl)
    go_wp2_with (fail)
    refine ⟨again_cons (again_off rfl rfl) (again_cons (again_off rfl rfl) (again_cons (again_off rfl rfl) again_nil)), ?_⟩
    go_wp2_with (fail)
    go_ret
    exact ⟨congrArg (fun b => Ending.returned (Value.bool b)) hv.out.symm, F1⟩
  have H3 := Lib.hid h3
  clear h2
  have hd := of_decide_eq_true H1.out
  have hlen := vecMay_len H3.out
  obtain ⟨k, hk⟩ : ∃ k : Nat, o.dot.1 = k := ⟨o.dot.1.toNat, by omega⟩
  have l1 : k < o.deps.length := by omega
  obtain ⟨b, off, hao, hb, hc⟩ := (HR.out.no F1).d.at l1
  obtain rfl := hao
  have e0 : w1.cell? ⟨b, off + k, none⟩ = some (.int .i64 o.deps[k]) := by have := hc 0 _ rfl; rwa [show k * eInt.k + 0 = k from Nat.mul_one k] at this
  clear hc
  have hgd : o.deps.getD o.dot.1.toNat 0 = o.deps[k] := by rw [hk]; exact gd l1
  obtain ⟨x, hx⟩ : ∃ x, Hid (x = o.deps[k]) := ⟨_, Lib.hid rfl⟩
  rw [← hx.out] at e0 hgd
  have HGD := Lib.hid hgd
  obtain ⟨s, hs⟩ : ∃ s, Hid (s = o.dot.2) := ⟨_, Lib.hid rfl⟩
  have hs1 : 1 ≤ s ∧ s ≤ 1048575 := by rw [hs.out]; exact ⟨hd.2.2.2.1, hd.2.2.2.2⟩
  rw [← hs.out] at q1
  rw [hk] at q0
  have HK := Lib.hid hk
  have kn : (k : Int) < o.deps.length := by omega
  clear hgd hd hlen hk
  by_cases h4 : x = s - 1
  case neg =>
    have hv : Hid (B = false) := Lib.hid (by rw [hBq.out]; unfold opMay; rw [H1.out, H2.out, H3.out, HGD.out, ← hs.out, decide_eq_false h4]; rfl)
    go_wp2_with (fail)
    refine ⟨again_cons (again_of rfl rfl ?_) (again_cons (again_of rfl rfl ?_) (again_cons (again_of rfl rfl ?_) again_nil)), ?_⟩
    · go_simp
    · go_simp
    · go_simp
    go_wp2_with (fail)
    go_ret
    exact ⟨congrArg (fun b => Ending.returned (Value.bool b)) hv.out.symm, F1⟩
  have H4 : Hid (decide (o.deps.getD o.dot.1.toNat 0 = o.dot.2 - 1) = true) := Lib.hid (by rw [HGD.out, ← hs.out]; exact decide_eq_true h4)
  clear HGD
  subst h4
  go_wp2_with (fail)
  refine ⟨again_cons (again_of rfl rfl ?_) (again_cons (again_of rfl rfl ?_) (again_cons (again_of rfl rfl ?_) again_nil)), ?_⟩
  · go_simp
  · go_simp
  · go_simp
  have hb := HB.out
  have c1 := Lib.hid (fun W => name_ok o.type W hb.type)
  have c2 := Lib.hid (fun W => name_ok o.field W hb.field)
  have c3 := Lib.hid (fun W => id_ok o.id W hb.id)
  have hbv := hb.value
  clear hb
  go_wp2_with (fail)
  refine (c1.out _).mono ?_
  rintro e w' ⟨rfl, rfl⟩
  rcases n1 : nameMay o.type with _ | _
  · have hv : Hid (B = false) := Lib.hid (by rw [hBq.out]; unfold opMay; rw [H1.out, H2.out, H3.out, H4.out, n1]; rfl)
    go_wp2_with (fail)
    go_ret
    exact ⟨congrArg (fun b => Ending.returned (Value.bool b)) hv.out.symm, F1⟩
  have N1 := Lib.hid n1
  clear n1
  go_wp2_with (fail)
  refine (c2.out _).mono ?_
  rintro e w' ⟨rfl, rfl⟩
  rcases n2 : nameMay o.field with _ | _
  · have hv : Hid (B = false) := Lib.hid (by rw [hBq.out]; unfold opMay; rw [H1.out, H2.out, H3.out, H4.out, N1.out, n2]; rfl)
    go_wp2_with (fail)
    go_ret
    exact ⟨congrArg (fun b => Ending.returned (Value.bool b)) hv.out.symm, F1⟩
  have N2 := Lib.hid n2
  clear n2
  go_wp2_with (fail)
  refine (c3.out _).mono ?_
  rintro e w' ⟨rfl, rfl⟩
  rcases n3 : idMay o.id with _ | _
  · have hv : Hid (B = false) := Lib.hid (by rw [hBq.out]; unfold opMay; rw [H1.out, H2.out, H3.out, H4.out, N1.out, N2.out, n3]; rfl)
    go_wp2_with (fail)
    go_ret
    exact ⟨congrArg (fun b => Ending.returned (Value.bool b)) hv.out.symm, F1⟩
  have N3 := Lib.hid n3
  clear n3
  go_wp2_with (fail)
  refine (own_ok B1 (HR.out.no F1) hbv).mono ?_
  rintro e w2 ⟨rfl, f2⟩
  have F2 := F1.trans f2
  have B2 := f2.obj B1 id
  clear f2
  rcases n4 : ownMay o with _ | _
  · have hv : Hid (B = false) := Lib.hid (by rw [hBq.out]; unfold opMay; rw [H1.out, H2.out, H3.out, H4.out, N1.out, N2.out, N3.out, n4]; rfl)
    go_wp2_with (fail)
    go_ret
    exact ⟨congrArg (fun b => Ending.returned (Value.bool b)) hv.out.symm, F2⟩
  have N4 := Lib.hid n4
  clear n4
  go_wp2_with (fail)
  refine (opBare_ok B2 (HR.out.no F2)).mono ?_
  rintro e w' ⟨rfl, rfl⟩
  have hv : Hid (B = opBare o) := Lib.hid (by rw [hBq.out]; unfold opMay; rw [H1.out, H2.out, H3.out, H4.out, N1.out, N2.out, N3.out, N4.out]; rfl)
  go_wp2_with (fail)
  go_ret
  exact ⟨congrArg (fun b => Ending.returned (Value.bool b)) hv.out.symm, F2⟩
end Go.Proofs.YtofikfkgiblblaaGreatDoor

/- Merged: Apply. -/
import Derived.Test.YtofikfkgiblblaaGreatDoorQ39
/- Layer 12: cell.Apply. -/
namespace Go.Proofs.YtofikfkgiblblaaGreatDoor
set_option linter.unusedVariables false
set_option linter.unusedSimpArgs false
set_option linter.unusedVariables false
set_option linter.unusedSimpArgs false
open Go.RowKit Go.Lib Go.Tt Go.Shelf
/-- A vector that has a dot. -/
def bump (l : List Int) (d : Dt) : List Int := l.set d.1.toNat (max (l.getD d.1.toNat 0) d.2)
/-- What Apply gives. -/
def applyF (c : CellV) (o : OpV) (n : Int) : CellV × Int :=
  if (cellMay c n && opMay o n) = false then (zeroC, 1200)
  else if kindOf o ≠ c.kind then (zeroC, 1201)
  else if (effF c o).2 ≠ 0 then (zeroC, (effF c o).2)
  else ({ (effF c o).1 with seen := bump (effF c o).1.seen o.dot }, 0)
theorem effF_seen {c : CellV} {o : OpV} (h : (effF c o).2 = 0) : (effF c o).1.seen = c.seen := by
  unfold effF at h ⊢
  split at h
  · next h0 => rw [if_pos h0]; unfold setF; split <;> rfl
  · next h0 =>
    rw [if_neg h0]
    split at h
    · next h1 =>
      rw [if_pos h1]
      unfold addF at h ⊢
      split at h
      · next h2 => rw [if_pos h2]
      · exact absurd h (by decide)
    · next h1 =>
      rw [if_neg h1]
      split at h
      · next h2 =>
        rw [if_pos h2]
        unfold putF at h ⊢
        split at h
        · exact absurd h (by decide)
        · next h3 => rw [if_neg h3]
      · next h2 =>
        rw [if_neg h2]
        split at h
        · next h3 => rw [if_pos h3]; rfl
        · next h3 =>
          rw [if_neg h3]
          split at h
          · next h4 =>
            rw [if_pos h4]
            unfold insF at h ⊢
            split at h
            · exact absurd h (by decide)
            · next h5 =>
              rw [if_neg h5]
              cases hp : placeOf c.elems (stOf (elOf o)) o.ref with
              | none => rw [hp] at h; exact absurd h (by show ¬ (1001 : Int) = 0; decide)
              | some k => rfl
          · next h4 =>
            rw [if_neg h4]
            unfold eraF at h ⊢
            split at h
            · exact absurd h (by decide)
            · next h5 => rw [if_neg h5]
theorem opMay_facts {o : OpV} {n : Int} (h : opMay o n = true) : dotMayN o.dot n = true ∧ timeMay o.time = true ∧ vecMay o.deps n = true ∧ ownMay o = true := by
  unfold opMay at h
  simp only [Bool.and_eq_true] at h
  exact ⟨h.1, h.2.1, h.2.2.1, h.2.2.2.2.2.2.2.1⟩
theorem ownMay_kind {o : OpV} (h : ownMay o = true) : (0 ≤ o.kind ∧ o.kind ≤ 5) ∧ ((o.kind = 0 ∨ o.kind = 2 ∨ o.kind = 4) → o.value.size ≤ 256) := by
  unfold ownMay at h
  split at h
  · next h0 => exact ⟨by omega, fun _ => of_decide_eq_true h⟩
  · split at h
    · exact ⟨by omega, fun _ => by omega⟩
    · split at h
      · exact ⟨by omega, fun _ => by omega⟩
      · split at h
        · simp only [Bool.and_eq_true] at h
          exact ⟨by omega, fun _ => of_decide_eq_true h.1⟩
        · split at h
          · exact ⟨by omega, fun _ => by omega⟩
          · cases h
theorem dotMay_of {d : Dt} {n : Int} (h : dotMayN d n = true) : dotMay d = true := by
  have h := of_decide_eq_true h
  exact decide_eq_true ⟨h.2.1, by omega, h.2.2.2.1, h.2.2.2.2⟩
theorem rowPut_one {l : List Value} {k : Nat} {v : Value} (h : k < l.length) : rowPut l k [v] = l.set k v := by
  rw [List.set_eq_take_append_cons_drop, if_pos h]
  show l.take k ++ [v] ++ l.drop (k + 1) = _
  rw [List.append_assoc]; rfl
theorem ow_offTy {α : Type} {w w' : World} {F : Nat → Prop} {e e' : TypeId} {E : Enc α} {v : Value} {l : List α} {g : Nat} {row : Array Value} {fz : Nat × Nat} (h : Ow w F e E v l) (R : w.heap[g]? = some (.cells row e' fz)) (hne : e ≠ e') (f : Frm (fun k => k = g) w w') : Ow w' F e E v l :=
  (h.ty.frm f fun k hk hkg => by
    obtain ⟨-, row', fz', hr'⟩ := hk
    have hkg : k = g := hkg
    subst hkg
    rw [R] at hr'
    simp only [Option.some.injEq, Obj.cells.injEq] at hr'
    exact hne hr'.2.1.symm).mono fun k _ h => h.1
set_option maxHeartbeats 4000000 in
set_option maxRecDepth 100000 in
theorem apply_ok {w : World} {c : CellV} {ve vl vs : Value} (h : CellR w c ve vl vs) (hb : CellB c) (hz : CellZ c) {o : OpV} {vd vo : Value} (hO : OpR w o vd vo) (hob : OpB o) (n : Int) :
    Calls Tryz.prog 11 #[cval c ve vl vs, opval o vd vo, .int .i64 n] w (CP (applyF c o n).1 (applyF c o n).2 w) := by
  obtain ⟨he, hl, hs⟩ := h
  have HR := Lib.hid (⟨he, hl, hs⟩ : CellR w c ve vl vs)
  obtain ⟨ae, ce, rfl⟩ := he.sh
  obtain ⟨al, cl, rfl⟩ := hl.sh
  obtain ⟨at_, cs, rfl⟩ := hs.sh
  obtain ⟨ad, cd, rfl⟩ := hO.d.sh
  obtain ⟨ao, co, rfl⟩ := hO.s.sh
  have HB := Lib.hid hb
  have HZ := Lib.hid hz
  have HO := Lib.hid hO
  have HOB := Lib.hid hob
  have B0 : (((w.alloc (.cells #[.int .i64 c.kind, .bool c.set, .int .i64 c.st.1, .int .i64 c.st.2, .string c.value, .int .i64 c.num.1, .int .i64 c.num.2, .slice ae c.ents.length ce, .slice al c.elems.length cl, .slice at_ c.seen.length cs] 30)).alloc (.cells #[.int .i64 o.dot.1, .int .i64 o.dot.2, .int .i64 o.time, .slice ad o.deps.length cd, .int .i64 o.kind, .string o.type, .string o.id, .string o.field, .string o.value, .int .i64 o.num.1, .int .i64 o.num.2, .int .i64 o.ref.1, .int .i64 o.ref.2, .slice ao o.dots.length co] 35)).alloc (.cells zlist.toArray 30)).heap[w.heap.size]? = some (.cells #[.int .i64 c.kind, .bool c.set, .int .i64 c.st.1, .int .i64 c.st.2, .string c.value, .int .i64 c.num.1, .int .i64 c.num.2, .slice ae c.ents.length ce, .slice al c.elems.length cl, .slice at_ c.seen.length cs] 30 (0, 0)) := al_old (al_old (heap_alloc_new w _))
  have O0 : (((w.alloc (.cells #[.int .i64 c.kind, .bool c.set, .int .i64 c.st.1, .int .i64 c.st.2, .string c.value, .int .i64 c.num.1, .int .i64 c.num.2, .slice ae c.ents.length ce, .slice al c.elems.length cl, .slice at_ c.seen.length cs] 30)).alloc (.cells #[.int .i64 o.dot.1, .int .i64 o.dot.2, .int .i64 o.time, .slice ad o.deps.length cd, .int .i64 o.kind, .string o.type, .string o.id, .string o.field, .string o.value, .int .i64 o.num.1, .int .i64 o.num.2, .int .i64 o.ref.1, .int .i64 o.ref.2, .slice ao o.dots.length co] 35)).alloc (.cells zlist.toArray 30)).heap[w.heap.size + 1]? = some (.cells #[.int .i64 o.dot.1, .int .i64 o.dot.2, .int .i64 o.time, .slice ad o.deps.length cd, .int .i64 o.kind, .string o.type, .string o.id, .string o.field, .string o.value, .int .i64 o.num.1, .int .i64 o.num.2, .int .i64 o.ref.1, .int .i64 o.ref.2, .slice ao o.dots.length co] 35 (0, 0)) := al_old (al_at (by simp))
  have C0 : (((w.alloc (.cells #[.int .i64 c.kind, .bool c.set, .int .i64 c.st.1, .int .i64 c.st.2, .string c.value, .int .i64 c.num.1, .int .i64 c.num.2, .slice ae c.ents.length ce, .slice al c.elems.length cl, .slice at_ c.seen.length cs] 30)).alloc (.cells #[.int .i64 o.dot.1, .int .i64 o.dot.2, .int .i64 o.time, .slice ad o.deps.length cd, .int .i64 o.kind, .string o.type, .string o.id, .string o.field, .string o.value, .int .i64 o.num.1, .int .i64 o.num.2, .int .i64 o.ref.1, .int .i64 o.ref.2, .slice ao o.dots.length co] 35)).alloc (.cells zlist.toArray 30)).heap[w.heap.size + 2]? = some (.cells zlist.toArray 30 (0, 0)) := al_at (by simp)
  have F0 : Frm No w (((w.alloc (.cells #[.int .i64 c.kind, .bool c.set, .int .i64 c.st.1, .int .i64 c.st.2, .string c.value, .int .i64 c.num.1, .int .i64 c.num.2, .slice ae c.ents.length ce, .slice al c.elems.length cl, .slice at_ c.seen.length cs] 30)).alloc (.cells #[.int .i64 o.dot.1, .int .i64 o.dot.2, .int .i64 o.time, .slice ad o.deps.length cd, .int .i64 o.kind, .string o.type, .string o.id, .string o.field, .string o.value, .int .i64 o.num.1, .int .i64 o.num.2, .int .i64 o.ref.1, .int .i64 o.ref.2, .slice ao o.dots.length co] 35)).alloc (.cells zlist.toArray 30)) := (((Frm.refl No w).al _).al _).al _
  have HCV : Hid (cval c (.slice ae c.ents.length ce) (.slice al c.elems.length cl) (.slice at_ c.seen.length cs) = .agg #[.int .i64 c.kind, .bool c.set, .int .i64 c.st.1, .int .i64 c.st.2, .string c.value, .int .i64 c.num.1, .int .i64 c.num.2, .slice ae c.ents.length ce, .slice al c.elems.length cl, .slice at_ c.seen.length cs]) := Lib.hid rfl
  have HOV : Hid (opval o (.slice ad o.deps.length cd) (.slice ao o.dots.length co) = .agg #[.int .i64 o.dot.1, .int .i64 o.dot.2, .int .i64 o.time, .slice ad o.deps.length cd, .int .i64 o.kind, .string o.type, .string o.id, .string o.field, .string o.value, .int .i64 o.num.1, .int .i64 o.num.2, .int .i64 o.ref.1, .int .i64 o.ref.2, .slice ao o.dots.length co]) := Lib.hid rfl
  have HM := Lib.hid (fun W (f : Frm No w W) => cellMay_ok (HR.out.no f) HZ.out n)
  have HOM := Lib.hid (fun W (f : Frm No w W) => opMay_ok (HO.out.no f) HOB.out n)
  have HKD := Lib.hid (fun W => opKind_ok (w := W) o (.slice ad o.deps.length cd) (.slice ao o.dots.length co))
  rw [HCV.out] at HM
  rw [HOV.out] at HOM HKD
  rw [HCV.out, HOV.out]
  clear he hl hs hb hz hO hob
  go_enter Tryz.func11, Tryz.ntmps11
  go_wp2_with (fail)
  refine (HM.out _ F0).mono ?_
  rintro e w1 ⟨rfl, f1⟩
  have F1 := F0.trans f1
  have B1 := f1.obj B0 id
  have O1 := f1.obj O0 id
  have C1 := f1.obj C0 id
  clear f1 B0 O0 C0 F0 HM
  have nc1 := lt_of_block C1
  rcases hm : cellMay c n with _ | _
  · have hr : Hid (applyF c o n = (zeroC, 1200)) := Lib.hid (by unfold applyF; rw [hm]; rfl)
    clear hm
    go_wp2_with (refine wpList_sto _ rfl (.tmp 6) (.tmp 21) 30 rfl C1 (by kernel_rfl) (by rfl) zone rfl rfl ?_)
    intro w7 C7 f7 z7
    obtain ⟨t0, t1, t2, t3, t4, t5, t6, t7, t8, t9⟩ := obj10 C7
    go_wp2
    refine bodyPost_ret (v := .tuple #[zval, .int .i64 1200]) (by simp [results, Tryz.results11, go_sem, zval, *]) rfl ?_
    rw [hr.out]
    exact zval_cp ⟨rfl, F1.then f7 fun k hk e => by omega⟩
  have HMM := Lib.hid hm
  clear hm
  obtain ⟨q0, q1, q2, q3, q4, q5, q6, q7, q8, q9, q10, q11, q12, q13⟩ := obj14 O1
  have no1 := lt_of_block O1
  go_wp2_with (fail)
  refine (HOM.out _ F1).mono ?_
  rintro e w2 ⟨rfl, f2⟩
  have F2 := F1.trans f2
  have B2 := f2.obj B1 id
  have O2 := f2.obj O1 id
  have C2 := f2.obj C1 id
  clear f2 B1 O1 C1 F1 HOM nc1 no1 q0 q1 q2 q3 q4 q5 q6 q7 q8 q9 q10 q11 q12 q13
  have nc2 := lt_of_block C2
  have no2 := lt_of_block O2
  have nb2 := lt_of_block B2
  rcases hom : opMay o n with _ | _
  · have hr : Hid (applyF c o n = (zeroC, 1200)) := Lib.hid (by unfold applyF; rw [hom, Bool.and_false]; rfl)
    clear hom
    go_wp2_with (refine wpList_sto _ rfl (.tmp 6) (.tmp 21) 30 rfl C2 (by kernel_rfl) (by rfl) zone rfl rfl ?_)
    intro w7 C7 f7 z7
    obtain ⟨t0, t1, t2, t3, t4, t5, t6, t7, t8, t9⟩ := obj10 C7
    go_wp2
    refine bodyPost_ret (v := .tuple #[zval, .int .i64 1200]) (by simp [results, Tryz.results11, go_sem, zval, *]) rfl ?_
    rw [hr.out]
    exact zval_cp ⟨rfl, F2.then f7 fun k hk e => by omega⟩
  have HOMM := Lib.hid hom
  clear hom
  obtain ⟨q0, q1, q2, q3, q4, q5, q6, q7, q8, q9, q10, q11, q12, q13⟩ := obj14 O2
  obtain ⟨p0, p1, p2, p3, p4, p5, p6, p7, p8, p9⟩ := obj10 B2
  obtain ⟨kd, hkd⟩ : ∃ k, Hid (k = kindOf o) := ⟨_, Lib.hid rfl⟩
  rw [← hkd.out] at HKD
  obtain ⟨ck, hck⟩ : ∃ k, Hid (k = c.kind) := ⟨_, Lib.hid rfl⟩
  rw [← hck.out] at p0
  go_wp2_with (fail)
  refine wp_region_plan [([0, 2, 3, 1], [3]), ([4, 5], [])] 56 (by kernel_rfl) (by kernel_rfl) (by simp) ?_
  intro N hN
  simp only [wpSegs, List.map_cons, List.map_nil, List.getD_cons_zero, List.getD_cons_succ]
  go_wp2_with (fail)
  refine (HKD.out _).mono ?_
  rintro e w3 ⟨rfl, f3⟩
  have F3 : Frm No w w3 := (F2.trans (Frm.drew No w2)).trans f3
  have B3 := f3.obj (show w2.drew.heap[w.heap.size]? = _ from B2) id
  have O3 := f3.obj (show w2.drew.heap[w.heap.size + 1]? = _ from O2) id
  have C3 := f3.obj (show w2.drew.heap[w.heap.size + 2]? = _ from C2) id
  clear f3 O2 C2 F2 HKD nc2 no2 nb2 q0 q1 q2 q3 q4 q5 q6 q7 q8 q9 q10 q11 q12 q13 p0 p1 p2 p3 p4 p5 p6 p7 p8 p9
  have nc3 := lt_of_block C3
  have no3 := lt_of_block O3
  have nb3 := lt_of_block B3
  obtain ⟨p0, p1, p2, p3, p4, p5, p6, p7, p8, p9⟩ := obj10 B3
  have P0 := Lib.hid p0
  rw [← hck.out] at p0
  go_wp2_with (fail)
  refine ⟨again_cons (again_of rfl rfl ?_) again_nil, ?_⟩
  · go_simp
  by_cases hkk : kd = ck
  case neg =>
    have hr : Hid (applyF c o n = (zeroC, 1201)) := Lib.hid (by
      unfold applyF
      rw [HMM.out, HOMM.out, if_neg (by decide), if_pos (by rw [← hkd.out, ← hck.out]; exact hkk)])
    clear B2
    go_wp2_with (refine wpList_sto _ rfl (.tmp 6) (.tmp 28) 30 rfl C3 (by kernel_rfl) (by rfl) zone rfl rfl ?_)
    intro w7 C7 f7 z7
    obtain ⟨t0, t1, t2, t3, t4, t5, t6, t7, t8, t9⟩ := obj10 C7
    go_wp2
    refine bodyPost_ret (v := .tuple #[zval, .int .i64 1201]) (by simp [results, Tryz.results11, go_sem, zval, *]) rfl ?_
    rw [hr.out]
    exact zval_cp ⟨rfl, F3.then f7 fun k hk e => by omega⟩
  subst hkk
  have hkeq : c.kind = kindOf o := by rw [← hck.out, hkd.out]
  clear p0 B2
  have p0 := P0.out
  clear P0
  have hof := opMay_facts HOMM.out
  have hok := ownMay_kind hof.2.2.2
  have HDN := Lib.hid hof.1
  have hdoes := does_ok (HR.out.no F3) HB.out O3 (HO.out.no F3) hkeq hok.1 (dotMay_of hof.1) hof.2.1 hok.2
  rw [HCV.out] at hdoes
  have HDO := Lib.hid hdoes
  clear hof hok hdoes hkeq
  have hA : Hid (applyF c o n = if (effF c o).2 ≠ 0 then (zeroC, (effF c o).2) else ({ (effF c o).1 with seen := bump (effF c o).1.seen o.dot }, 0)) := Lib.hid (by
    unfold applyF
    rw [HMM.out, HOMM.out, if_neg (by decide), if_neg (by rw [← hkd.out, ← hck.out]; exact fun h => h rfl)])
  have hSN : Hid ((effF c o).2 = 0 → (effF c o).1.seen = c.seen) := Lib.hid effF_seen
  obtain ⟨C, hC⟩ : ∃ C, Hid (C = (effF c o).1) := ⟨_, Lib.hid rfl⟩
  obtain ⟨E, hE⟩ : ∃ E, Hid (E = (effF c o).2) := ⟨_, Lib.hid rfl⟩
  rw [← hC.out, ← hE.out] at HDO hA hSN
  go_wp2_with (fail)
  refine HDO.out.mono ?_
  rintro e w4 ⟨ve', vl', vs', rfl, o4, f4⟩
  have F4 := F3.trans f4
  have O4 := f4.obj O3 id
  have C4 := f4.obj C3 id
  have z34 := f4.size
  obtain ⟨a4, c4, rfl⟩ := o4.e.sh
  obtain ⟨a5, c5, rfl⟩ := o4.l.sh
  obtain ⟨a6, c6, rfl⟩ := o4.s.sh
  have hcw : ∀ (x y z : Value), cval C x y z = .agg #[.int .i64 C.kind, .bool C.set, .int .i64 C.st.1, .int .i64 C.st.2, .string C.value, .int .i64 C.num.1, .int .i64 C.num.2, x, y, z] := fun x y z => rfl
  rw [hcw]
  have nC3 := Lib.hid nc3
  clear HDO B3 O3 C3 nc3 no3 nb3 p0 p1 p2 p3 p4 p5 p6 p7 p8 p9 hcw
  have o5 := CellO.mono (G := fun k => w3.heap.size ≤ k ∧ k < w4.heap.size) o4 fun k hk h => by rcases h with h | h; exact h.elim; exact h
  clear o4
  have T4 := heap_alloc_new w4 (.cells #[.int .i64 C.kind, .bool C.set, .int .i64 C.st.1, .int .i64 C.st.2, .string C.value, .int .i64 C.num.1, .int .i64 C.num.2, .slice a4 C.ents.length c4, .slice a5 C.elems.length c5, .slice a6 C.seen.length c6] 30 (0, 0))
  have O5 : (w4.alloc (.cells #[.int .i64 C.kind, .bool C.set, .int .i64 C.st.1, .int .i64 C.st.2, .string C.value, .int .i64 C.num.1, .int .i64 C.num.2, .slice a4 C.ents.length c4, .slice a5 C.elems.length c5, .slice a6 C.seen.length c6] 30 (0, 0))).heap[w.heap.size + 1]? = _ := al_old O4
  have C5 : (w4.alloc (.cells #[.int .i64 C.kind, .bool C.set, .int .i64 C.st.1, .int .i64 C.st.2, .string C.value, .int .i64 C.num.1, .int .i64 C.num.2, .slice a4 C.ents.length c4, .slice a5 C.elems.length c5, .slice a6 C.seen.length c6] 30 (0, 0))).heap[w.heap.size + 2]? = _ := al_old C4
  have F5 : Frm No w (w4.alloc (.cells #[.int .i64 C.kind, .bool C.set, .int .i64 C.st.1, .int .i64 C.st.2, .string C.value, .int .i64 C.num.1, .int .i64 C.num.2, .slice a4 C.ents.length c4, .slice a5 C.elems.length c5, .slice a6 C.seen.length c6] 30 (0, 0))) := F4.al _
  have nC4 := lt_of_block C4
  have nO4 := lt_of_block O4
  by_cases hE0 : E = 0
  case neg =>
    have hr : Hid (applyF c o n = (zeroC, E)) := Lib.hid (by rw [hA.out, if_pos hE0])
    go_wp2_with (refine wpList_sto _ rfl (.tmp 6) (.tmp 36) 30 rfl C5 (by kernel_rfl) (by rfl) zone rfl rfl ?_)
    intro w7 C7 f7 z7
    obtain ⟨t0, t1, t2, t3, t4, t5, t6, t7, t8, t9⟩ := obj10 C7
    go_wp2
    refine bodyPost_ret (v := .tuple #[zval, .int .i64 E]) (by simp [results, Tryz.results11, go_sem, zval, *]) rfl ?_
    rw [hr.out]
    exact zval_cp ⟨rfl, F5.then f7 fun k hk e => by omega⟩
  have HSE := Lib.hid (hSN.out hE0)
  have hr : Hid (applyF c o n = ({ C with seen := bump C.seen o.dot }, 0)) := Lib.hid (by rw [hA.out, if_neg (fun h => h hE0)])
  have hE0' := Lib.hid hE0
  clear hA hSN hE
  subst hE0
  have hdn := of_decide_eq_true HDN.out
  have hvl := vecMay_len (by have h := HMM.out; unfold cellMay at h; simp only [Bool.and_eq_true] at h; exact h.1)
  have hsl : C.seen.length = c.seen.length := by rw [HSE.out]
  obtain ⟨k, hk⟩ : ∃ k : Nat, o.dot.1 = k := ⟨o.dot.1.toNat, by omega⟩
  have hkl : k < C.seen.length := by omega
  have HK := Lib.hid hk
  have hsb : C.seen.length ≤ 16 := by omega
  clear hdn hvl hsl hk
  obtain ⟨g, row, hg, R4, hFg, hnn, hnc5, hcm, hrs, hrt⟩ := o5.s.cases (by omega)
  subst hg
  obtain ⟨g', off', hgg, -, hcell⟩ := o5.s.rd.at hkl
  simp only [Option.some.injEq, Addr.mk.injEq, and_true] at hgg
  obtain ⟨rfl, rfl⟩ := hgg
  have s0 : w4.cell? ⟨g, k, none⟩ = some (.int .i64 C.seen[k]) := by have := hcell 0 _ rfl; rwa [show 0 + (k * eInt.k + 0) = k from by show 0 + (k * 1 + 0) = k; omega] at this
  obtain ⟨x, hx⟩ : ∃ x, Hid (x = C.seen[k]) := ⟨_, Lib.hid rfl⟩
  rw [← hx.out] at s0
  have hgd : Hid (C.seen.getD k 0 = x) := Lib.hid (by rw [hx.out]; exact gd hkl)
  clear hcell
  have hone : ∀ (kd : Int) (s : Bool) (t1 t2 : Int) (sv : ByteArray) (m1 m2 : Int) (v1 v2 v3 : Value), v1.oneCell' = true → v2.oneCell' = true → v3.oneCell' = true → ∀ u ∈ [Value.int .i64 kd, .bool s, .int .i64 t1, .int .i64 t2, .string sv, .int .i64 m1, .int .i64 m2, v1, v2, v3], u.oneCell' = true := by
    intro kd s t1 t2 sv m1 m2 v1 v2 v3 h1 h2 h3 u hu
    simp only [List.mem_cons, List.not_mem_nil, or_false] at hu
    rcases hu with rfl | rfl | rfl | rfl | rfl | rfl | rfl | rfl | rfl | rfl <;> first | rfl | assumption
  have fz : ∀ i, w4.frozen? ⟨g, i, none⟩ = false := obj_frz R4
  obtain ⟨q0, q1, q2, q3, q4, q5, q6, q7, q8, q9, q10, q11, q12, q13⟩ := obj14 O4
  rw [HK.out] at q0
  obtain ⟨hg1, hgw⟩ := hFg
  clear q2 q3 q4 q5 q6 q7 q8 q9 q10 q11 q12 q13
  go_wp2_with (fail)
  refine wp_region_plan [([0, 1, 2, 3, 4, 5, 6, 7, 8, 9, 10, 11, 12, 13, 14, 15], [4, 1]), ([16, 17], [])] 56 (by kernel_rfl) (by kernel_rfl) (by simp) ?_
  intro N hN
  simp only [wpSegs, List.map_cons, List.map_nil, List.getD_cons_zero, List.getD_cons_succ]
  go_wp2_with (fail)
  refine ⟨again_cons (again_of rfl rfl ?_) (again_cons (again_of rfl rfl ?_) again_nil), ?_⟩
  · go_simp
  · go_simp
  have R5 : (w4.alloc (.cells #[.int .i64 C.kind, .bool C.set, .int .i64 C.st.1, .int .i64 C.st.2, .string C.value, .int .i64 C.num.1, .int .i64 C.num.2, .slice a4 C.ents.length c4, .slice a5 C.elems.length c5, .slice (some ⟨g, 0, none⟩) C.seen.length c6] 30 (0, 0))).heap[g]? = some (.cells row 3 (0, 0)) := al_old R4
  have hrl : k + 1 ≤ row.size := by rw [hrs]; show k + 1 ≤ c6 * 1; omega
  go_wp2_with (refine wpList_stoC _ rfl (.tmp 54) (.tmp 53) 3 rfl R5 (vs := [.int .i64 (max x o.dot.2)]) rfl (by kernel_rfl) hrl (by intro u hu; simp at hu; subst hu; rfl) rfl rfl _ rfl ?_)
  intro w6 R6 f6 z6
  have T6 := f6.obj T4 (by show ¬ w4.heap.size = g; omega)
  have C6 := f6.obj C5 (by have := nC3.out; show ¬ w.heap.size + 2 = g; omega)
  have hy : C.seen.set k (max x o.dot.2) = bump C.seen o.dot := by unfold bump; rw [HK.out, Int.toNat_natCast, hgd.out]
  have hw3 := nC3.out
  have e6 := (ow_offTy ((o5.e.al (.cells #[.int .i64 C.kind, .bool C.set, .int .i64 C.st.1, .int .i64 C.st.2, .string C.value, .int .i64 C.num.1, .int .i64 C.num.2, .slice a4 C.ents.length c4, .slice a5 C.elems.length c5, .slice (some ⟨g, 0, none⟩) C.seen.length c6] 30 (0, 0))).no (Frm.drew No _)) R5 (by decide) f6).mono (G := fun k => w.heap.size + 3 ≤ k) fun k _ h => by have := h.1; omega
  have l6 := (ow_offTy ((o5.l.al (.cells #[.int .i64 C.kind, .bool C.set, .int .i64 C.st.1, .int .i64 C.st.2, .string C.value, .int .i64 C.num.1, .int .i64 C.num.2, .slice a4 C.ents.length c4, .slice a5 C.elems.length c5, .slice (some ⟨g, 0, none⟩) C.seen.length c6] 30 (0, 0))).no (Frm.drew No _)) R5 (by decide) f6).mono (G := fun k => w.heap.size + 3 ≤ k) fun k _ h => by have := h.1; omega
  have s6 : Ow w6 (fun k => w.heap.size + 3 ≤ k) 3 eInt (.slice (some ⟨g, 0, none⟩) (C.seen.set k (max x o.dot.2)).length c6) (C.seen.set k (max x o.dot.2)) := by
    have hk1 : k < row.toList.length := by rw [Array.length_toList]; omega
    refine Ow.row R6 (by omega) (by rw [List.length_set]; exact hnc5) hcm (by simp only [List.size_toArray, rowPut_len _ _ _ (show k + [Value.int .i64 (max x o.dot.2)].length ≤ row.toList.length from by show k + 1 ≤ _; omega), Array.length_toList]; exact hrs) ?_
    rw [List.length_set]
    have hf := flat_set eInt (l := C.seen) (k := k) (j := 0) (y := max x o.dot.2) (v := .int .i64 (max x o.dot.2)) hkl (by show 0 < 1; omega) rfl
    rw [← hf, ← hrt, rowPut_one hk1, ← List.take_set]
    show _ = List.take _ (row.toList.set (k * 1 + 0) _)
    rw [Nat.mul_one, Nat.add_zero]
  rw [List.length_set, hy] at s6
  obtain ⟨t0, t1, t2, t3, t4, t5, t6, t7, t8, t9⟩ := obj10 T6
  go_wp2_with (refine wpList_sto _ rfl (.tmp 6) (.tmp 55) 30 rfl C6 (by kernel_rfl) (by rfl) (hone C.kind C.set C.st.1 C.st.2 C.value C.num.1 C.num.2 (.slice a4 C.ents.length c4) (.slice a5 C.elems.length c5) (.slice (some ⟨g, 0, none⟩) C.seen.length c6) rfl rfl rfl) rfl rfl ?_)
  intro w7 C7 f7 z7
  obtain ⟨t0, t1, t2, t3, t4, t5, t6, t7, t8, t9⟩ := obj10 C7
  go_wp2
  have G7 : Frm (fun k => k < w.heap.size + 3) w6 w7 := f7.mono fun k _ e => by omega
  refine bodyPost_ret (v := .tuple #[cval { C with seen := bump C.seen o.dot } (.slice a4 C.ents.length c4) (.slice a5 C.elems.length c5) (.slice (some ⟨g, 0, none⟩) C.seen.length c6), .int .i64 0]) (by simp [results, Tryz.results11, go_sem, cval, *]) rfl ?_
  rw [hr.out]
  exact ⟨_, _, _, rfl, ⟨(e6.frm G7 fun k h e => by omega).fin (by omega), (l6.frm G7 fun k h e => by omega).fin (by omega), (s6.frm G7 fun k h e => by omega).fin (by omega)⟩, ((F5.trans (Frm.drew No _)).then f6 fun k hk e => by have := F3.size; omega).then f7 fun k hk e => by omega⟩
end Go.Proofs.YtofikfkgiblblaaGreatDoor

/- Merged: LCells. -/
import Derived.Test.YtofikfkgiblblaaGreatDoorQ16
import Derived.Test.YtofikfkgiblblaaGreatDoorQ42
import Derived.Test.YtofikfkgiblblaaGreatDoorZC0
import Derived.Test.YtofikfkgiblblaaGreatDoorZC3
import Derived.Test.YtofikfkgiblblaaGreatDoorZC6
import Derived.Test.YtofikfkgiblblaaGreatDoorZC8
set_option linter.unusedVariables false
set_option linter.unusedSimpArgs false
/- tattlelaw12.Cells answers true, for what is of a bulk that can be told. -/
namespace Go.Proofs.YtofikfkgiblblaaGreatDoor
set_option linter.unusedVariables false
set_option linter.unusedSimpArgs false
open Go.RowKit Go.Lib Go.Tt Go.Shelf
theorem factor6 {α : Type} {G : Prop} (A : α) (Q : α → Prop) (main : Q A → G) (key : Q A) : G := main key
theorem CellO.off {w w' : World} {F : Nat → Prop} {c : CellV} {ve vl vs : Value} {g : Nat} {row : Array Value} {e : TypeId} {fz : Nat × Nat} (h : CellO w F c ve vl vs) (R : w.heap[g]? = some (.cells row e fz)) (he : e = 30 ∨ e = 35) (f : Frm (fun k => k = g) w w') : CellO w' F c ve vl vs :=
  ⟨ow_offTy h.e R (by rcases he with rfl | rfl <;> decide) f, ow_offTy h.l R (by rcases he with rfl | rfl <;> decide) f, ow_offTy h.s R (by rcases he with rfl | rfl <;> decide) f⟩
theorem OpO.off {w w' : World} {F : Nat → Prop} {o : OpV} {vd vo : Value} {g : Nat} {row : Array Value} {e : TypeId} {fz : Nat × Nat} (h : OpO w F o vd vo) (R : w.heap[g]? = some (.cells row e fz)) (he : e = 30 ∨ e = 35) (f : Frm (fun k => k = g) w w') : OpO w' F o vd vo :=
  ⟨ow_offTy h.d R (by rcases he with rfl | rfl <;> decide) f, ow_offTy h.s R (by rcases he with rfl | rfl <;> decide) f⟩
theorem CellO.no {w w' : World} {F : Nat → Prop} {c : CellV} {ve vl vs : Value} (h : CellO w F c ve vl vs) (f : Frm No w w') : CellO w' F c ve vl vs := ⟨h.e.no f, h.l.no f, h.s.no f⟩
theorem OpO.no {w w' : World} {F : Nat → Prop} {o : OpV} {vd vo : Value} (h : OpO w F o vd vo) (f : Frm No w w') : OpO w' F o vd vo := ⟨h.d.no f, h.s.no f⟩
theorem copyCell_lit {w : World} {c : CellV} {ve vl vs : Value} (h : CellR w c ve vl vs) (hb : CellB c) :
    Calls Tryz.prog 9 #[cval c ve vl vs] w fun e w' => ∃ a1 c1 a2 c2 a3 c3, e = .returned (.agg #[.int .i64 c.kind, .bool c.set, .int .i64 c.st.1, .int .i64 c.st.2, .string c.value, .int .i64 c.num.1, .int .i64 c.num.2, .slice a1 c.ents.length c1, .slice a2 c.elems.length c2, .slice a3 c.seen.length c3]) ∧ CellO w' (fun _ => True) c (.slice a1 c.ents.length c1) (.slice a2 c.elems.length c2) (.slice a3 c.seen.length c3) ∧ Frm No w w' := by
  refine (copyCell_ok h hb).mono ?_
  rintro e w' ⟨ve, vl, vs, rfl, o, f⟩
  obtain ⟨a1, c1, rfl⟩ := o.e.sh
  obtain ⟨a2, c2, rfl⟩ := o.l.sh
  obtain ⟨a3, c3, rfl⟩ := o.s.sh
  exact ⟨a1, c1, a2, c2, a3, c3, rfl, o.mono fun _ _ _ => trivial, f⟩
theorem copyOp_lit {w : World} {o : OpV} {vd vo : Value} (h : OpR w o vd vo) (b1 : o.deps.length * 8 ≤ reachBytes) (b2 : o.dots.length * 16 ≤ reachBytes) :
    Calls Tryz.prog 10 #[opval o vd vo] w fun e w' => ∃ a4 c4 a5 c5, e = .returned (.agg #[.int .i64 o.dot.1, .int .i64 o.dot.2, .int .i64 o.time, .slice a4 o.deps.length c4, .int .i64 o.kind, .string o.type, .string o.id, .string o.field, .string o.value, .int .i64 o.num.1, .int .i64 o.num.2, .int .i64 o.ref.1, .int .i64 o.ref.2, .slice a5 o.dots.length c5]) ∧ OpO w' (fun _ => True) o (.slice a4 o.deps.length c4) (.slice a5 o.dots.length c5) ∧ Frm No w w' := by
  refine (copyOp_ok h b1 b2).mono ?_
  rintro e w' ⟨vd, vo, rfl, ow, f⟩
  obtain ⟨a4, c4, rfl⟩ := ow.d.sh
  obtain ⟨a5, c5, rfl⟩ := ow.s.sh
  exact ⟨a4, c4, a5, c5, rfl, ⟨ow.d.mono fun _ _ _ => trivial, ow.s.mono fun _ _ _ => trivial⟩, f⟩
/-- Behind the copies. -/
structure Cop (w : World) (c : CellV) (o : OpV) (ae : Option Addr) (ce : Nat) (al : Option Addr) (cl : Nat) (at_ : Option Addr) (cs : Nat) (ad : Option Addr) (cd : Nat) (ao : Option Addr) (co : Nat) (W : World) (tb ub : Nat)
    (a1 : Option Addr) (c1 : Nat) (a2 : Option Addr) (c2 : Nat) (a3 : Option Addr) (c3 : Nat) (a4 : Option Addr) (c4 : Nat) (a5 : Option Addr) (c5 : Nat) : Prop where
  frm : Frm No w W
  xb : W.heap[w.heap.size]? = some (.cells #[.int .i64 c.kind, .bool c.set, .int .i64 c.st.1, .int .i64 c.st.2, .string c.value, .int .i64 c.num.1, .int .i64 c.num.2, .slice ae c.ents.length ce, .slice al c.elems.length cl, .slice at_ c.seen.length cs] 30 (0, 0))
  xo : W.heap[w.heap.size + 1]? = some (.cells #[.int .i64 o.dot.1, .int .i64 o.dot.2, .int .i64 o.time, .slice ad o.deps.length cd, .int .i64 o.kind, .string o.type, .string o.id, .string o.field, .string o.value, .int .i64 o.num.1, .int .i64 o.num.2, .int .i64 o.ref.1, .int .i64 o.ref.2, .slice ao o.dots.length co] 35 (0, 0))
  xt : W.heap[tb]? = some (.cells #[.int .i64 c.kind, .bool c.set, .int .i64 c.st.1, .int .i64 c.st.2, .string c.value, .int .i64 c.num.1, .int .i64 c.num.2, .slice a1 c.ents.length c1, .slice a2 c.elems.length c2, .slice a3 c.seen.length c3] 30 (0, 0))
  xu : W.heap[ub]? = some (.cells #[.int .i64 o.dot.1, .int .i64 o.dot.2, .int .i64 o.time, .slice a4 o.deps.length c4, .int .i64 o.kind, .string o.type, .string o.id, .string o.field, .string o.value, .int .i64 o.num.1, .int .i64 o.num.2, .int .i64 o.ref.1, .int .i64 o.ref.2, .slice a5 o.dots.length c5] 35 (0, 0))
  cell : CellR W c (.slice a1 c.ents.length c1) (.slice a2 c.elems.length c2) (.slice a3 c.seen.length c3)
  op : OpR W o (.slice a4 o.deps.length c4) (.slice a5 o.dots.length c5)
theorem cp_lit {f : FuncId} {args : Array Value} {W : World} {C : CellV} {E : Int} (h : Calls Tryz.prog f args W (CP C E W)) : Calls Tryz.prog f args W fun e w' => ∃ s1 s2 s3 s4 s5 s6, e = .returned (.tuple #[.agg #[.int .i64 C.kind, .bool C.set, .int .i64 C.st.1, .int .i64 C.st.2, .string C.value, .int .i64 C.num.1, .int .i64 C.num.2, .slice s1 C.ents.length s2, .slice s3 C.elems.length s4, .slice s5 C.seen.length s6], .int .i64 E]) ∧ CellO w' (fun k => W.heap.size ≤ k) C (.slice s1 C.ents.length s2) (.slice s3 C.elems.length s4) (.slice s5 C.seen.length s6) ∧ Frm No W w' := by
  refine h.mono ?_
  rintro e w' ⟨ve, vl, vs, rfl, o, g⟩
  obtain ⟨s1, s2, rfl⟩ := o.e.sh
  obtain ⟨s3, s4, rfl⟩ := o.l.sh
  obtain ⟨s5, s6, rfl⟩ := o.s.sh
  exact ⟨s1, s2, s3, s4, s5, s6, rfl, o.mono fun k _ h => by rcases h with h | h; exact h.elim; exact h.1, g⟩
set_option maxHeartbeats 16000000 in
set_option maxRecDepth 100000 in
theorem lcells_ok {w : World} (tab : Tab w) {c : CellV} {ve vl vs : Value} (hR : CellR w c ve vl vs) (hB : CellB c) (hZ : CellZ c) (hT : ToldR c) {o : OpV} {vd vo : Value} (hO : OpR w o vd vo) (hob : OpB o) (b1 : o.deps.length * 8 ≤ reachBytes) (b2 : o.dots.length * 16 ≤ reachBytes)
    {a : Option Addr} {nl ml : Nat} {l : List Int} (hl0 : RdS w eInt (.slice a nl ml) l) (kd n : Int) :
    Calls Tryz.prog 3 #[cval c ve vl vs, opval o vd vo, .slice a nl ml, .int .i64 kd, .int .i64 n] w fun e w' => e = .returned (.bool true) ∧ Frm No w w' := by
  have HR := Lib.hid hR
  have HO := Lib.hid hO
  obtain ⟨he, hl, hs⟩ := hR
  obtain ⟨ae, ce, rfl⟩ := he.sh
  obtain ⟨al, cl, rfl⟩ := hl.sh
  obtain ⟨at_, cs, rfl⟩ := hs.sh
  obtain ⟨hd, hds⟩ := hO
  obtain ⟨ad, cd, rfl⟩ := hd.sh
  obtain ⟨ao, co, rfl⟩ := hds.sh
  have HL := Lib.hid hl0
  have HCC := Lib.hid (fun W (f : Frm No w W) => copyCell_lit (HR.out.no f) hB)
  have HCO := Lib.hid (fun W (f : Frm No w W) => copyOp_lit (HO.out.no f) b1 b2)
  have TAB := Lib.hid tab
  clear he hl hs hd hds hl0 tab
  unfold cval opval opCells at *
  have F0 : Frm No w ((w.alloc (.cells #[.int .i64 c.kind, .bool c.set, .int .i64 c.st.1, .int .i64 c.st.2, .string c.value, .int .i64 c.num.1, .int .i64 c.num.2, .slice ae c.ents.length ce, .slice al c.elems.length cl, .slice at_ c.seen.length cs] 30 (0, 0))).alloc (.cells #[.int .i64 o.dot.1, .int .i64 o.dot.2, .int .i64 o.time, .slice ad o.deps.length cd, .int .i64 o.kind, .string o.type, .string o.id, .string o.field, .string o.value, .int .i64 o.num.1, .int .i64 o.num.2, .int .i64 o.ref.1, .int .i64 o.ref.2, .slice ao o.dots.length co] 35 (0, 0))) := ((Frm.refl No w).al _).al _
  have B0 : ((w.alloc (.cells #[.int .i64 c.kind, .bool c.set, .int .i64 c.st.1, .int .i64 c.st.2, .string c.value, .int .i64 c.num.1, .int .i64 c.num.2, .slice ae c.ents.length ce, .slice al c.elems.length cl, .slice at_ c.seen.length cs] 30 (0, 0))).alloc (.cells #[.int .i64 o.dot.1, .int .i64 o.dot.2, .int .i64 o.time, .slice ad o.deps.length cd, .int .i64 o.kind, .string o.type, .string o.id, .string o.field, .string o.value, .int .i64 o.num.1, .int .i64 o.num.2, .int .i64 o.ref.1, .int .i64 o.ref.2, .slice ao o.dots.length co] 35 (0, 0))).heap[w.heap.size]? = some (.cells #[.int .i64 c.kind, .bool c.set, .int .i64 c.st.1, .int .i64 c.st.2, .string c.value, .int .i64 c.num.1, .int .i64 c.num.2, .slice ae c.ents.length ce, .slice al c.elems.length cl, .slice at_ c.seen.length cs] 30 (0, 0)) := al_old (heap_alloc_new w _)
  have O0 : ((w.alloc (.cells #[.int .i64 c.kind, .bool c.set, .int .i64 c.st.1, .int .i64 c.st.2, .string c.value, .int .i64 c.num.1, .int .i64 c.num.2, .slice ae c.ents.length ce, .slice al c.elems.length cl, .slice at_ c.seen.length cs] 30 (0, 0))).alloc (.cells #[.int .i64 o.dot.1, .int .i64 o.dot.2, .int .i64 o.time, .slice ad o.deps.length cd, .int .i64 o.kind, .string o.type, .string o.id, .string o.field, .string o.value, .int .i64 o.num.1, .int .i64 o.num.2, .int .i64 o.ref.1, .int .i64 o.ref.2, .slice ao o.dots.length co] 35 (0, 0))).heap[w.heap.size + 1]? = some (.cells #[.int .i64 o.dot.1, .int .i64 o.dot.2, .int .i64 o.time, .slice ad o.deps.length cd, .int .i64 o.kind, .string o.type, .string o.id, .string o.field, .string o.value, .int .i64 o.num.1, .int .i64 o.num.2, .int .i64 o.ref.1, .int .i64 o.ref.2, .slice ao o.dots.length co] 35 (0, 0)) := al_at (by simp)
  go_enter Tryz.func3, Tryz.ntmps3
  go_wp2_with (fail)
  revert F0 B0 O0
  generalize ((w.alloc (.cells #[.int .i64 c.kind, .bool c.set, .int .i64 c.st.1, .int .i64 c.st.2, .string c.value, .int .i64 c.num.1, .int .i64 c.num.2, .slice ae c.ents.length ce, .slice al c.elems.length cl, .slice at_ c.seen.length cs] 30 (0, 0))).alloc (.cells #[.int .i64 o.dot.1, .int .i64 o.dot.2, .int .i64 o.time, .slice ad o.deps.length cd, .int .i64 o.kind, .string o.type, .string o.id, .string o.field, .string o.value, .int .i64 o.num.1, .int .i64 o.num.2, .int .i64 o.ref.1, .int .i64 o.ref.2, .slice ao o.dots.length co] 35 (0, 0))) = X0
  intro F0 B0 O0
  replace F0 := F0.trans (Frm.drew No X0)
  replace B0 := (Frm.drew No X0).obj B0 id
  replace O0 := (Frm.drew No X0).obj O0 id
  refine wp_region_fork6 (.seg [0, 2] [] (.tri 1 [2] (.tri 3 [] (.fork 4 [] (.seg [5] [] (.seg [6] [] (.seg [7] [] .nil))) 5 [] (.seg [4] [] (.seg [6] [] (.seg [7] [] .nil)))) 4 [2] (.fork 3 [] (.seg [5] [] (.seg [6] [] (.seg [7] [] .nil))) 5 [2] (.seg [3] [] (.seg [6] [] (.seg [7] [] .nil)))) 5 [2] (.fork 3 [] (.seg [4] [] (.seg [6] [] (.seg [7] [] .nil))) 4 [2] (.seg [3] [] (.seg [6] [] (.seg [7] [] .nil))))) 4 [2, 0] (.fork 1 [2] (.fork 3 [] (.seg [5] [] (.seg [6] [] (.seg [7] [] .nil))) 5 [2] (.seg [3] [] (.seg [6] [] (.seg [7] [] .nil)))) 5 [2, 0] (.seg [1] [2] (.seg [3] [] (.seg [6] [] (.seg [7] [] .nil))))) 5 [2, 0] (.fork 1 [2] (.fork 3 [] (.seg [4] [] (.seg [6] [] (.seg [7] [] .nil))) 4 [2] (.seg [3] [] (.seg [6] [] (.seg [7] [] .nil)))) 4 [2, 0] (.seg [1] [2] (.seg [3] [] (.seg [6] [] (.seg [7] [] .nil))))))) 129 (by kernel_rfl) (by kernel_rfl) (by simp) ?_
  intro N hN
  have HNN := Lib.hid hN
  clear hN
  simp only [wpST6, wpSg, List.map_cons, List.map_nil, List.getD_cons_zero, List.getD_cons_succ]
  revert F0 B0 O0
  generalize X0.drew = w0
  intro F0 B0 O0
  apply factor6 (α := Nat → Nat → Option Addr → Nat → Option Addr → Nat → Option Addr → Nat → Option Addr → Nat → Option Addr → Nat → Act) _ (fun A => ∀ (W : World) (tb ub : Nat) (a1 : Option Addr) (c1 : Nat) (a2 : Option Addr) (c2 : Nat) (a3 : Option Addr) (c3 : Nat) (a4 : Option Addr) (c4 : Nat) (a5 : Option Addr) (c5 : Nat), Cop w c o ae ce al cl at_ cs ad cd ao co W tb ub a1 c1 a2 c2 a3 c3 a4 c4 a5 c5 → N (A tb ub a1 c1 a2 c2 a3 c3 a4 c4 a5 c5) W)
  case main =>
    intro key
    have KEY := Lib.hid key
    clear key
    obtain ⟨qb0, qb1, qb2, qb3, qb4, qb5, qb6, qb7, qb8, qb9⟩ := obj10 B0
    obtain ⟨qo0, qo1, qo2, qo3, qo4, qo5, qo6, qo7, qo8, qo9, qo10, qo11, qo12, qo13⟩ := obj14 O0
    have nb0 := lt_of_block B0
    have no0 := lt_of_block O0
    go_wp2_with (fail)
    refine ⟨?_, ?_, ?_⟩
    · go_wp2_with (fail)
      refine (HCC.out w0 F0).mono ?_
      rintro e w1 ⟨a1, c1, a2, c2, a3, c3, rfl, oc1, f1⟩
      have F1 := F0.trans f1
      have B1 := f1.obj B0 id
      have O1 := f1.obj O0 id
      clear f1
      clear qb0 qb1 qb2 qb3 qb4 qb5 qb6 qb7 qb8 qb9 qo0 qo1 qo2 qo3 qo4 qo5 qo6 qo7 qo8 qo9 qo10 qo11 qo12 qo13
      obtain ⟨qb0, qb1, qb2, qb3, qb4, qb5, qb6, qb7, qb8, qb9⟩ := obj10 B1
      obtain ⟨qo0, qo1, qo2, qo3, qo4, qo5, qo6, qo7, qo8, qo9, qo10, qo11, qo12, qo13⟩ := obj14 O1
      have nb1 := lt_of_block B1
      have no1 := lt_of_block O1
      go_wp2_with (fail)
      refine ⟨(again_cons (again_of rfl rfl ?_) again_nil), ?_⟩
      · go_simp
      refine ⟨?_, ?_, ?_⟩
      · go_wp2_with (fail)
        refine (HCO.out w1 F1).mono ?_
        rintro e w2 ⟨a4, c4, a5, c5, rfl, oo2, f2⟩
        have F2 := F1.trans f2
        have B2 := f2.obj B1 id
        have O2 := f2.obj O1 id
        have oc2 := oc1.no f2
        clear f2
        clear qb0 qb1 qb2 qb3 qb4 qb5 qb6 qb7 qb8 qb9 qo0 qo1 qo2 qo3 qo4 qo5 qo6 qo7 qo8 qo9 qo10 qo11 qo12 qo13
        obtain ⟨qb0, qb1, qb2, qb3, qb4, qb5, qb6, qb7, qb8, qb9⟩ := obj10 B2
        obtain ⟨qo0, qo1, qo2, qo3, qo4, qo5, qo6, qo7, qo8, qo9, qo10, qo11, qo12, qo13⟩ := obj14 O2
        have nb2 := lt_of_block B2
        have no2 := lt_of_block O2
        go_wp2_with (fail)
        refine ⟨?_, ?_⟩
        · go_wp2_with (fail)
          obtain ⟨ub, h2⟩ : ∃ x, x = w2.heap.size + 1 := ⟨_, rfl⟩
          obtain ⟨tb, h1⟩ : ∃ x, x = w2.heap.size := ⟨_, rfl⟩
          rw [← h2, ← h1]
          exact KEY.out ((w2.alloc (.cells #[.int .i64 c.kind, .bool c.set, .int .i64 c.st.1, .int .i64 c.st.2, .string c.value, .int .i64 c.num.1, .int .i64 c.num.2, .slice a1 c.ents.length c1, .slice a2 c.elems.length c2, .slice a3 c.seen.length c3] 30 (0, 0))).alloc (.cells #[.int .i64 o.dot.1, .int .i64 o.dot.2, .int .i64 o.time, .slice a4 o.deps.length c4, .int .i64 o.kind, .string o.type, .string o.id, .string o.field, .string o.value, .int .i64 o.num.1, .int .i64 o.num.2, .int .i64 o.ref.1, .int .i64 o.ref.2, .slice a5 o.dots.length c5] 35 (0, 0))) tb ub a1 c1 a2 c2 a3 c3 a4 c4 a5 c5 ⟨F2.trans (((Frm.refl No w2).al (.cells #[.int .i64 c.kind, .bool c.set, .int .i64 c.st.1, .int .i64 c.st.2, .string c.value, .int .i64 c.num.1, .int .i64 c.num.2, .slice a1 c.ents.length c1, .slice a2 c.elems.length c2, .slice a3 c.seen.length c3] 30 (0, 0))).al (.cells #[.int .i64 o.dot.1, .int .i64 o.dot.2, .int .i64 o.time, .slice a4 o.deps.length c4, .int .i64 o.kind, .string o.type, .string o.id, .string o.field, .string o.value, .int .i64 o.num.1, .int .i64 o.num.2, .int .i64 o.ref.1, .int .i64 o.ref.2, .slice a5 o.dots.length c5] 35 (0, 0))), (((Frm.refl No w2).al (.cells #[.int .i64 c.kind, .bool c.set, .int .i64 c.st.1, .int .i64 c.st.2, .string c.value, .int .i64 c.num.1, .int .i64 c.num.2, .slice a1 c.ents.length c1, .slice a2 c.elems.length c2, .slice a3 c.seen.length c3] 30 (0, 0))).al (.cells #[.int .i64 o.dot.1, .int .i64 o.dot.2, .int .i64 o.time, .slice a4 o.deps.length c4, .int .i64 o.kind, .string o.type, .string o.id, .string o.field, .string o.value, .int .i64 o.num.1, .int .i64 o.num.2, .int .i64 o.ref.1, .int .i64 o.ref.2, .slice a5 o.dots.length c5] 35 (0, 0))).obj B2 id, (((Frm.refl No w2).al (.cells #[.int .i64 c.kind, .bool c.set, .int .i64 c.st.1, .int .i64 c.st.2, .string c.value, .int .i64 c.num.1, .int .i64 c.num.2, .slice a1 c.ents.length c1, .slice a2 c.elems.length c2, .slice a3 c.seen.length c3] 30 (0, 0))).al (.cells #[.int .i64 o.dot.1, .int .i64 o.dot.2, .int .i64 o.time, .slice a4 o.deps.length c4, .int .i64 o.kind, .string o.type, .string o.id, .string o.field, .string o.value, .int .i64 o.num.1, .int .i64 o.num.2, .int .i64 o.ref.1, .int .i64 o.ref.2, .slice a5 o.dots.length c5] 35 (0, 0))).obj O2 id, (by rw [h1]; exact al_old (heap_alloc_new _ _)), (by rw [h2]; exact al_at (by simp)), (oc2.no (((Frm.refl No w2).al (.cells #[.int .i64 c.kind, .bool c.set, .int .i64 c.st.1, .int .i64 c.st.2, .string c.value, .int .i64 c.num.1, .int .i64 c.num.2, .slice a1 c.ents.length c1, .slice a2 c.elems.length c2, .slice a3 c.seen.length c3] 30 (0, 0))).al (.cells #[.int .i64 o.dot.1, .int .i64 o.dot.2, .int .i64 o.time, .slice a4 o.deps.length c4, .int .i64 o.kind, .string o.type, .string o.id, .string o.field, .string o.value, .int .i64 o.num.1, .int .i64 o.num.2, .int .i64 o.ref.1, .int .i64 o.ref.2, .slice a5 o.dots.length c5] 35 (0, 0)))).rd, (oo2.no (((Frm.refl No w2).al (.cells #[.int .i64 c.kind, .bool c.set, .int .i64 c.st.1, .int .i64 c.st.2, .string c.value, .int .i64 c.num.1, .int .i64 c.num.2, .slice a1 c.ents.length c1, .slice a2 c.elems.length c2, .slice a3 c.seen.length c3] 30 (0, 0))).al (.cells #[.int .i64 o.dot.1, .int .i64 o.dot.2, .int .i64 o.time, .slice a4 o.deps.length c4, .int .i64 o.kind, .string o.type, .string o.id, .string o.field, .string o.value, .int .i64 o.num.1, .int .i64 o.num.2, .int .i64 o.ref.1, .int .i64 o.ref.2, .slice a5 o.dots.length c5] 35 (0, 0)))).rd⟩
        · as_aux_lemma =>
            go_wp2_with (fail)
            obtain ⟨tb, h2⟩ : ∃ x, x = w2.heap.size + 1 := ⟨_, rfl⟩
            obtain ⟨ub, h1⟩ : ∃ x, x = w2.heap.size := ⟨_, rfl⟩
            rw [← h2, ← h1]
            exact KEY.out ((w2.alloc (.cells #[.int .i64 o.dot.1, .int .i64 o.dot.2, .int .i64 o.time, .slice a4 o.deps.length c4, .int .i64 o.kind, .string o.type, .string o.id, .string o.field, .string o.value, .int .i64 o.num.1, .int .i64 o.num.2, .int .i64 o.ref.1, .int .i64 o.ref.2, .slice a5 o.dots.length c5] 35 (0, 0))).alloc (.cells #[.int .i64 c.kind, .bool c.set, .int .i64 c.st.1, .int .i64 c.st.2, .string c.value, .int .i64 c.num.1, .int .i64 c.num.2, .slice a1 c.ents.length c1, .slice a2 c.elems.length c2, .slice a3 c.seen.length c3] 30 (0, 0))) tb ub a1 c1 a2 c2 a3 c3 a4 c4 a5 c5 ⟨F2.trans (((Frm.refl No w2).al (.cells #[.int .i64 o.dot.1, .int .i64 o.dot.2, .int .i64 o.time, .slice a4 o.deps.length c4, .int .i64 o.kind, .string o.type, .string o.id, .string o.field, .string o.value, .int .i64 o.num.1, .int .i64 o.num.2, .int .i64 o.ref.1, .int .i64 o.ref.2, .slice a5 o.dots.length c5] 35 (0, 0))).al (.cells #[.int .i64 c.kind, .bool c.set, .int .i64 c.st.1, .int .i64 c.st.2, .string c.value, .int .i64 c.num.1, .int .i64 c.num.2, .slice a1 c.ents.length c1, .slice a2 c.elems.length c2, .slice a3 c.seen.length c3] 30 (0, 0))), (((Frm.refl No w2).al (.cells #[.int .i64 o.dot.1, .int .i64 o.dot.2, .int .i64 o.time, .slice a4 o.deps.length c4, .int .i64 o.kind, .string o.type, .string o.id, .string o.field, .string o.value, .int .i64 o.num.1, .int .i64 o.num.2, .int .i64 o.ref.1, .int .i64 o.ref.2, .slice a5 o.dots.length c5] 35 (0, 0))).al (.cells #[.int .i64 c.kind, .bool c.set, .int .i64 c.st.1, .int .i64 c.st.2, .string c.value, .int .i64 c.num.1, .int .i64 c.num.2, .slice a1 c.ents.length c1, .slice a2 c.elems.length c2, .slice a3 c.seen.length c3] 30 (0, 0))).obj B2 id, (((Frm.refl No w2).al (.cells #[.int .i64 o.dot.1, .int .i64 o.dot.2, .int .i64 o.time, .slice a4 o.deps.length c4, .int .i64 o.kind, .string o.type, .string o.id, .string o.field, .string o.value, .int .i64 o.num.1, .int .i64 o.num.2, .int .i64 o.ref.1, .int .i64 o.ref.2, .slice a5 o.dots.length c5] 35 (0, 0))).al (.cells #[.int .i64 c.kind, .bool c.set, .int .i64 c.st.1, .int .i64 c.st.2, .string c.value, .int .i64 c.num.1, .int .i64 c.num.2, .slice a1 c.ents.length c1, .slice a2 c.elems.length c2, .slice a3 c.seen.length c3] 30 (0, 0))).obj O2 id, (by rw [h2]; exact al_at (by simp)), (by rw [h1]; exact al_old (heap_alloc_new _ _)), (oc2.no (((Frm.refl No w2).al (.cells #[.int .i64 o.dot.1, .int .i64 o.dot.2, .int .i64 o.time, .slice a4 o.deps.length c4, .int .i64 o.kind, .string o.type, .string o.id, .string o.field, .string o.value, .int .i64 o.num.1, .int .i64 o.num.2, .int .i64 o.ref.1, .int .i64 o.ref.2, .slice a5 o.dots.length c5] 35 (0, 0))).al (.cells #[.int .i64 c.kind, .bool c.set, .int .i64 c.st.1, .int .i64 c.st.2, .string c.value, .int .i64 c.num.1, .int .i64 c.num.2, .slice a1 c.ents.length c1, .slice a2 c.elems.length c2, .slice a3 c.seen.length c3] 30 (0, 0)))).rd, (oo2.no (((Frm.refl No w2).al (.cells #[.int .i64 o.dot.1, .int .i64 o.dot.2, .int .i64 o.time, .slice a4 o.deps.length c4, .int .i64 o.kind, .string o.type, .string o.id, .string o.field, .string o.value, .int .i64 o.num.1, .int .i64 o.num.2, .int .i64 o.ref.1, .int .i64 o.ref.2, .slice a5 o.dots.length c5] 35 (0, 0))).al (.cells #[.int .i64 c.kind, .bool c.set, .int .i64 c.st.1, .int .i64 c.st.2, .string c.value, .int .i64 c.num.1, .int .i64 c.num.2, .slice a1 c.ents.length c1, .slice a2 c.elems.length c2, .slice a3 c.seen.length c3] 30 (0, 0)))).rd⟩
      · as_aux_lemma =>
          go_wp2_with (fail)
          obtain ⟨tb, htb⟩ : ∃ x, x = w1.heap.size := ⟨_, rfl⟩
          rw [← htb]
          have hTB : w.heap.size + 2 ≤ tb := by omega
          have f2 := (Frm.refl No w1).al (.cells #[.int .i64 0, .bool false, .int .i64 0, .int .i64 0, .string ⟨#[]⟩, .int .i64 0, .int .i64 0, .slice none 0 0, .slice none 0 0, .slice none 0 0] 30 (0, 0))
          have T2 : (w1.alloc (.cells #[.int .i64 0, .bool false, .int .i64 0, .int .i64 0, .string ⟨#[]⟩, .int .i64 0, .int .i64 0, .slice none 0 0, .slice none 0 0, .slice none 0 0] 30 (0, 0))).heap[tb]? = some (.cells #[.int .i64 0, .bool false, .int .i64 0, .int .i64 0, .string ⟨#[]⟩, .int .i64 0, .int .i64 0, .slice none 0 0, .slice none 0 0, .slice none 0 0] 30 (0, 0)) := by rw [htb]; exact heap_alloc_new w1 _
          clear htb
          have F2 := F1.trans f2
          have B2 := f2.obj B1 id
          have O2 := f2.obj O1 id
          have oc2 := oc1.no f2
          clear f2
          revert T2 F2 B2 O2 oc2
          generalize w1.alloc (.cells #[.int .i64 0, .bool false, .int .i64 0, .int .i64 0, .string ⟨#[]⟩, .int .i64 0, .int .i64 0, .slice none 0 0, .slice none 0 0, .slice none 0 0] 30 (0, 0)) = w2
          intro T2 F2 B2 O2 oc2
          clear qb0 qb1 qb2 qb3 qb4 qb5 qb6 qb7 qb8 qb9 qo0 qo1 qo2 qo3 qo4 qo5 qo6 qo7 qo8 qo9 qo10 qo11 qo12 qo13
          obtain ⟨qb0, qb1, qb2, qb3, qb4, qb5, qb6, qb7, qb8, qb9⟩ := obj10 B2
          obtain ⟨qo0, qo1, qo2, qo3, qo4, qo5, qo6, qo7, qo8, qo9, qo10, qo11, qo12, qo13⟩ := obj14 O2
          have nb2 := lt_of_block B2
          have no2 := lt_of_block O2
          have nt2 := lt_of_block T2
          go_wp2_with (fail)
          refine ⟨(again_cons (again_of rfl rfl ?_) again_nil), ?_⟩
          · go_simp
          refine ⟨?_, ?_⟩
          · go_wp2_with (fail)
            refine (HCO.out w2 F2).mono ?_
            rintro e w3 ⟨a4, c4, a5, c5, rfl, oo3, f3⟩
            have F3 := F2.trans f3
            have B3 := f3.obj B2 id
            have O3 := f3.obj O2 id
            have T3 := f3.obj T2 id
            have oc3 := oc2.no f3
            clear f3
            clear qb0 qb1 qb2 qb3 qb4 qb5 qb6 qb7 qb8 qb9 qo0 qo1 qo2 qo3 qo4 qo5 qo6 qo7 qo8 qo9 qo10 qo11 qo12 qo13
            obtain ⟨qb0, qb1, qb2, qb3, qb4, qb5, qb6, qb7, qb8, qb9⟩ := obj10 B3
            obtain ⟨qo0, qo1, qo2, qo3, qo4, qo5, qo6, qo7, qo8, qo9, qo10, qo11, qo12, qo13⟩ := obj14 O3
            have nb3 := lt_of_block B3
            have no3 := lt_of_block O3
            have nt3 := lt_of_block T3
            go_wp2_with (refine wpList_sto _ rfl (.tmp 11) (.tmp 26) 30 rfl (al_old T3) (by kernel_rfl) (by rfl) (vs := [.int .i64 c.kind, .bool c.set, .int .i64 c.st.1, .int .i64 c.st.2, .string c.value, .int .i64 c.num.1, .int .i64 c.num.2, .slice a1 c.ents.length c1, .slice a2 c.elems.length c2, .slice a3 c.seen.length c3]) (by intro u hu; simp only [List.mem_cons, List.not_mem_nil, or_false] at hu; rcases hu with rfl | rfl | rfl | rfl | rfl | rfl | rfl | rfl | rfl | rfl <;> rfl) rfl rfl ?_)
            intro w4 T4 f4 z4
            obtain ⟨ub, hub⟩ : ∃ x, x = w3.heap.size := ⟨_, rfl⟩
            rw [← hub]
            have U3 : (w3.alloc (.cells #[.int .i64 0, .int .i64 0, .int .i64 0, .slice none 0 0, .int .i64 0, .string ⟨#[]⟩, .string ⟨#[]⟩, .string ⟨#[]⟩, .string ⟨#[]⟩, .int .i64 0, .int .i64 0, .int .i64 0, .int .i64 0, .slice none 0 0] 35 (0, 0))).heap[ub]? = some (.cells #[.int .i64 0, .int .i64 0, .int .i64 0, .slice none 0 0, .int .i64 0, .string ⟨#[]⟩, .string ⟨#[]⟩, .string ⟨#[]⟩, .string ⟨#[]⟩, .int .i64 0, .int .i64 0, .int .i64 0, .int .i64 0, .slice none 0 0] 35 (0, 0)) := by rw [hub]; exact heap_alloc_new w3 _
            have hTU : ¬ tb = ub := by omega
            have hUB : w.heap.size + 2 ≤ ub := by omega
            clear hub
            have B4 := f4.obj (al_old B3) (by omega)
            have O4 := f4.obj (al_old O3) (by omega)
            have U4 := f4.obj U3 (fun e => hTU e.symm)
            have F4 := (F3.al (.cells #[.int .i64 0, .int .i64 0, .int .i64 0, .slice none 0 0, .int .i64 0, .string ⟨#[]⟩, .string ⟨#[]⟩, .string ⟨#[]⟩, .string ⟨#[]⟩, .int .i64 0, .int .i64 0, .int .i64 0, .int .i64 0, .slice none 0 0] 35 (0, 0))).then f4 fun k hk e => by omega
            have oc4 := (oc3.no ((Frm.refl No w3).al (.cells #[.int .i64 0, .int .i64 0, .int .i64 0, .slice none 0 0, .int .i64 0, .string ⟨#[]⟩, .string ⟨#[]⟩, .string ⟨#[]⟩, .string ⟨#[]⟩, .int .i64 0, .int .i64 0, .int .i64 0, .int .i64 0, .slice none 0 0] 35 (0, 0)))).off (al_old T3) (.inl rfl) f4
            have oo4 := (oo3.no ((Frm.refl No w3).al (.cells #[.int .i64 0, .int .i64 0, .int .i64 0, .slice none 0 0, .int .i64 0, .string ⟨#[]⟩, .string ⟨#[]⟩, .string ⟨#[]⟩, .string ⟨#[]⟩, .int .i64 0, .int .i64 0, .int .i64 0, .int .i64 0, .slice none 0 0] 35 (0, 0)))).off (al_old T3) (.inl rfl) f4
            go_wp2_with (refine wpList_sto _ rfl (.tmp 12) (.tmp 28) 35 rfl U4 (by kernel_rfl) (by rfl) (vs := [.int .i64 o.dot.1, .int .i64 o.dot.2, .int .i64 o.time, .slice a4 o.deps.length c4, .int .i64 o.kind, .string o.type, .string o.id, .string o.field, .string o.value, .int .i64 o.num.1, .int .i64 o.num.2, .int .i64 o.ref.1, .int .i64 o.ref.2, .slice a5 o.dots.length c5]) (by intro u hu; simp only [List.mem_cons, List.not_mem_nil, or_false] at hu; rcases hu with rfl | rfl | rfl | rfl | rfl | rfl | rfl | rfl | rfl | rfl | rfl | rfl | rfl | rfl <;> rfl) rfl rfl ?_)
            intro w5 U5 f5 z5
            go_wp2_with (fail)
            exact KEY.out w5 tb ub a1 c1 a2 c2 a3 c3 a4 c4 a5 c5 ⟨F4.then f5 fun k hk e => by omega, f5.obj B4 (by omega), f5.obj O4 (by omega), f5.obj T4 (fun e => hTU e), U5, (oc4.off U4 (.inr rfl) f5).rd, (oo4.off U4 (.inr rfl) f5).rd⟩
          · as_aux_lemma =>
              go_wp2_with (fail)
              obtain ⟨ub, hub⟩ : ∃ x, x = w2.heap.size := ⟨_, rfl⟩
              rw [← hub]
              have hUB : w.heap.size + 2 ≤ ub := by omega
              have hTU : ¬ tb = ub := by omega
              have f3 := (Frm.refl No w2).al (.cells #[.int .i64 0, .int .i64 0, .int .i64 0, .slice none 0 0, .int .i64 0, .string ⟨#[]⟩, .string ⟨#[]⟩, .string ⟨#[]⟩, .string ⟨#[]⟩, .int .i64 0, .int .i64 0, .int .i64 0, .int .i64 0, .slice none 0 0] 35 (0, 0))
              have U3 : (w2.alloc (.cells #[.int .i64 0, .int .i64 0, .int .i64 0, .slice none 0 0, .int .i64 0, .string ⟨#[]⟩, .string ⟨#[]⟩, .string ⟨#[]⟩, .string ⟨#[]⟩, .int .i64 0, .int .i64 0, .int .i64 0, .int .i64 0, .slice none 0 0] 35 (0, 0))).heap[ub]? = some (.cells #[.int .i64 0, .int .i64 0, .int .i64 0, .slice none 0 0, .int .i64 0, .string ⟨#[]⟩, .string ⟨#[]⟩, .string ⟨#[]⟩, .string ⟨#[]⟩, .int .i64 0, .int .i64 0, .int .i64 0, .int .i64 0, .slice none 0 0] 35 (0, 0)) := by rw [hub]; exact heap_alloc_new w2 _
              clear hub
              have F3 := F2.trans f3
              have B3 := f3.obj B2 id
              have O3 := f3.obj O2 id
              have T3 := f3.obj T2 id
              have oc3 := oc2.no f3
              clear f3
              revert U3 F3 B3 O3 T3 oc3
              generalize w2.alloc (.cells #[.int .i64 0, .int .i64 0, .int .i64 0, .slice none 0 0, .int .i64 0, .string ⟨#[]⟩, .string ⟨#[]⟩, .string ⟨#[]⟩, .string ⟨#[]⟩, .int .i64 0, .int .i64 0, .int .i64 0, .int .i64 0, .slice none 0 0] 35 (0, 0)) = w3
              intro U3 F3 B3 O3 T3 oc3
              clear qb0 qb1 qb2 qb3 qb4 qb5 qb6 qb7 qb8 qb9 qo0 qo1 qo2 qo3 qo4 qo5 qo6 qo7 qo8 qo9 qo10 qo11 qo12 qo13
              obtain ⟨qb0, qb1, qb2, qb3, qb4, qb5, qb6, qb7, qb8, qb9⟩ := obj10 B3
              obtain ⟨qo0, qo1, qo2, qo3, qo4, qo5, qo6, qo7, qo8, qo9, qo10, qo11, qo12, qo13⟩ := obj14 O3
              have nb3 := lt_of_block B3
              have no3 := lt_of_block O3
              have nt3 := lt_of_block T3
              have nu3 := lt_of_block U3
              go_wp2_with (fail)
              refine ⟨(again_cons (again_of rfl rfl ?_) again_nil), ?_⟩
              · go_simp
              go_wp2_with (fail)
              refine (HCO.out w3 F3).mono ?_
              rintro e w4 ⟨a4, c4, a5, c5, rfl, oo4, f4⟩
              have F4 := F3.trans f4
              have B4 := f4.obj B3 id
              have O4 := f4.obj O3 id
              have T4 := f4.obj T3 id
              have U4 := f4.obj U3 id
              have oc4 := oc3.no f4
              clear f4
              clear qb0 qb1 qb2 qb3 qb4 qb5 qb6 qb7 qb8 qb9 qo0 qo1 qo2 qo3 qo4 qo5 qo6 qo7 qo8 qo9 qo10 qo11 qo12 qo13
              obtain ⟨qb0, qb1, qb2, qb3, qb4, qb5, qb6, qb7, qb8, qb9⟩ := obj10 B4
              obtain ⟨qo0, qo1, qo2, qo3, qo4, qo5, qo6, qo7, qo8, qo9, qo10, qo11, qo12, qo13⟩ := obj14 O4
              have nb4 := lt_of_block B4
              have no4 := lt_of_block O4
              have nt4 := lt_of_block T4
              have nu4 := lt_of_block U4
              go_wp2_with (refine wpList_sto _ rfl (.tmp 11) (.tmp 26) 30 rfl T4 (by kernel_rfl) (by rfl) (vs := [.int .i64 c.kind, .bool c.set, .int .i64 c.st.1, .int .i64 c.st.2, .string c.value, .int .i64 c.num.1, .int .i64 c.num.2, .slice a1 c.ents.length c1, .slice a2 c.elems.length c2, .slice a3 c.seen.length c3]) (by intro u hu; simp only [List.mem_cons, List.not_mem_nil, or_false] at hu; rcases hu with rfl | rfl | rfl | rfl | rfl | rfl | rfl | rfl | rfl | rfl <;> rfl) rfl rfl ?_)
              intro w5 T5 f5 z5
              have B5 := f5.obj B4 (by omega)
              have O5 := f5.obj O4 (by omega)
              have U5 := f5.obj U4 (fun e => hTU e.symm)
              have F5 := F4.then f5 fun k hk e => by omega
              go_wp2_with (refine wpList_sto _ rfl (.tmp 12) (.tmp 28) 35 rfl U5 (by kernel_rfl) (by rfl) (vs := [.int .i64 o.dot.1, .int .i64 o.dot.2, .int .i64 o.time, .slice a4 o.deps.length c4, .int .i64 o.kind, .string o.type, .string o.id, .string o.field, .string o.value, .int .i64 o.num.1, .int .i64 o.num.2, .int .i64 o.ref.1, .int .i64 o.ref.2, .slice a5 o.dots.length c5]) (by intro u hu; simp only [List.mem_cons, List.not_mem_nil, or_false] at hu; rcases hu with rfl | rfl | rfl | rfl | rfl | rfl | rfl | rfl | rfl | rfl | rfl | rfl | rfl | rfl <;> rfl) rfl rfl ?_)
              intro w6 U6 f6 z6
              go_wp2_with (fail)
              exact KEY.out w6 tb ub a1 c1 a2 c2 a3 c3 a4 c4 a5 c5 ⟨F5.then f6 fun k hk e => by omega, f6.obj B5 (by omega), f6.obj O5 (by omega), f6.obj T5 (fun e => hTU e), U6, ((oc4.off T4 (.inl rfl) f5).off U5 (.inr rfl) f6).rd, ((oo4.off T4 (.inl rfl) f5).off U5 (.inr rfl) f6).rd⟩
      · as_aux_lemma =>
          go_wp2_with (fail)
          obtain ⟨ub, hub⟩ : ∃ x, x = w1.heap.size := ⟨_, rfl⟩
          rw [← hub]
          have hUB : w.heap.size + 2 ≤ ub := by omega
          have f2 := (Frm.refl No w1).al (.cells #[.int .i64 0, .int .i64 0, .int .i64 0, .slice none 0 0, .int .i64 0, .string ⟨#[]⟩, .string ⟨#[]⟩, .string ⟨#[]⟩, .string ⟨#[]⟩, .int .i64 0, .int .i64 0, .int .i64 0, .int .i64 0, .slice none 0 0] 35 (0, 0))
          have U2 : (w1.alloc (.cells #[.int .i64 0, .int .i64 0, .int .i64 0, .slice none 0 0, .int .i64 0, .string ⟨#[]⟩, .string ⟨#[]⟩, .string ⟨#[]⟩, .string ⟨#[]⟩, .int .i64 0, .int .i64 0, .int .i64 0, .int .i64 0, .slice none 0 0] 35 (0, 0))).heap[ub]? = some (.cells #[.int .i64 0, .int .i64 0, .int .i64 0, .slice none 0 0, .int .i64 0, .string ⟨#[]⟩, .string ⟨#[]⟩, .string ⟨#[]⟩, .string ⟨#[]⟩, .int .i64 0, .int .i64 0, .int .i64 0, .int .i64 0, .slice none 0 0] 35 (0, 0)) := by rw [hub]; exact heap_alloc_new w1 _
          clear hub
          have F2 := F1.trans f2
          have B2 := f2.obj B1 id
          have O2 := f2.obj O1 id
          have oc2 := oc1.no f2
          clear f2
          revert U2 F2 B2 O2 oc2
          generalize w1.alloc (.cells #[.int .i64 0, .int .i64 0, .int .i64 0, .slice none 0 0, .int .i64 0, .string ⟨#[]⟩, .string ⟨#[]⟩, .string ⟨#[]⟩, .string ⟨#[]⟩, .int .i64 0, .int .i64 0, .int .i64 0, .int .i64 0, .slice none 0 0] 35 (0, 0)) = w2
          intro U2 F2 B2 O2 oc2
          clear qb0 qb1 qb2 qb3 qb4 qb5 qb6 qb7 qb8 qb9 qo0 qo1 qo2 qo3 qo4 qo5 qo6 qo7 qo8 qo9 qo10 qo11 qo12 qo13
          obtain ⟨qb0, qb1, qb2, qb3, qb4, qb5, qb6, qb7, qb8, qb9⟩ := obj10 B2
          obtain ⟨qo0, qo1, qo2, qo3, qo4, qo5, qo6, qo7, qo8, qo9, qo10, qo11, qo12, qo13⟩ := obj14 O2
          have nb2 := lt_of_block B2
          have no2 := lt_of_block O2
          have nu2 := lt_of_block U2
          go_wp2_with (fail)
          refine ⟨(again_cons (again_of rfl rfl ?_) again_nil), ?_⟩
          · go_simp
          refine ⟨?_, ?_⟩
          · go_wp2_with (fail)
            refine (HCO.out w2 F2).mono ?_
            rintro e w3 ⟨a4, c4, a5, c5, rfl, oo3, f3⟩
            have F3 := F2.trans f3
            have B3 := f3.obj B2 id
            have O3 := f3.obj O2 id
            have U3 := f3.obj U2 id
            have oc3 := oc2.no f3
            clear f3
            clear qb0 qb1 qb2 qb3 qb4 qb5 qb6 qb7 qb8 qb9 qo0 qo1 qo2 qo3 qo4 qo5 qo6 qo7 qo8 qo9 qo10 qo11 qo12 qo13
            obtain ⟨qb0, qb1, qb2, qb3, qb4, qb5, qb6, qb7, qb8, qb9⟩ := obj10 B3
            obtain ⟨qo0, qo1, qo2, qo3, qo4, qo5, qo6, qo7, qo8, qo9, qo10, qo11, qo12, qo13⟩ := obj14 O3
            have nb3 := lt_of_block B3
            have no3 := lt_of_block O3
            have nu3 := lt_of_block U3
            go_wp2_with (refine wpList_sto _ rfl (.tmp 12) (.tmp 28) 35 rfl (al_old U3) (by kernel_rfl) (by rfl) (vs := [.int .i64 o.dot.1, .int .i64 o.dot.2, .int .i64 o.time, .slice a4 o.deps.length c4, .int .i64 o.kind, .string o.type, .string o.id, .string o.field, .string o.value, .int .i64 o.num.1, .int .i64 o.num.2, .int .i64 o.ref.1, .int .i64 o.ref.2, .slice a5 o.dots.length c5]) (by intro u hu; simp only [List.mem_cons, List.not_mem_nil, or_false] at hu; rcases hu with rfl | rfl | rfl | rfl | rfl | rfl | rfl | rfl | rfl | rfl | rfl | rfl | rfl | rfl <;> rfl) rfl rfl ?_)
            intro w5 U5 f5 z5
            obtain ⟨tb, htb⟩ : ∃ x, x = w3.heap.size := ⟨_, rfl⟩
            rw [← htb]
            have T3 : (w3.alloc (.cells #[.int .i64 c.kind, .bool c.set, .int .i64 c.st.1, .int .i64 c.st.2, .string c.value, .int .i64 c.num.1, .int .i64 c.num.2, .slice a1 c.ents.length c1, .slice a2 c.elems.length c2, .slice a3 c.seen.length c3] 30 (0, 0))).heap[tb]? = some (.cells #[.int .i64 c.kind, .bool c.set, .int .i64 c.st.1, .int .i64 c.st.2, .string c.value, .int .i64 c.num.1, .int .i64 c.num.2, .slice a1 c.ents.length c1, .slice a2 c.elems.length c2, .slice a3 c.seen.length c3] 30 (0, 0)) := by rw [htb]; exact heap_alloc_new w3 _
            have hTU : ¬ tb = ub := by omega
            have hTB : w.heap.size + 2 ≤ tb := by omega
            clear htb
            go_wp2_with (fail)
            exact KEY.out w5 tb ub a1 c1 a2 c2 a3 c3 a4 c4 a5 c5 ⟨(F3.al (.cells #[.int .i64 c.kind, .bool c.set, .int .i64 c.st.1, .int .i64 c.st.2, .string c.value, .int .i64 c.num.1, .int .i64 c.num.2, .slice a1 c.ents.length c1, .slice a2 c.elems.length c2, .slice a3 c.seen.length c3] 30 (0, 0))).then f5 fun k hk e => by omega, f5.obj (al_old B3) (by omega), f5.obj (al_old O3) (by omega), f5.obj T3 (fun e => hTU e), U5, ((oc3.no ((Frm.refl No w3).al (.cells #[.int .i64 c.kind, .bool c.set, .int .i64 c.st.1, .int .i64 c.st.2, .string c.value, .int .i64 c.num.1, .int .i64 c.num.2, .slice a1 c.ents.length c1, .slice a2 c.elems.length c2, .slice a3 c.seen.length c3] 30 (0, 0)))).off (al_old U3) (.inr rfl) f5).rd, ((oo3.no ((Frm.refl No w3).al (.cells #[.int .i64 c.kind, .bool c.set, .int .i64 c.st.1, .int .i64 c.st.2, .string c.value, .int .i64 c.num.1, .int .i64 c.num.2, .slice a1 c.ents.length c1, .slice a2 c.elems.length c2, .slice a3 c.seen.length c3] 30 (0, 0)))).off (al_old U3) (.inr rfl) f5).rd⟩
          · as_aux_lemma =>
              go_wp2_with (fail)
              obtain ⟨tb, htb⟩ : ∃ x, x = w2.heap.size := ⟨_, rfl⟩
              rw [← htb]
              have hTB : w.heap.size + 2 ≤ tb := by omega
              have hTU : ¬ tb = ub := by omega
              have f3 := (Frm.refl No w2).al (.cells #[.int .i64 0, .bool false, .int .i64 0, .int .i64 0, .string ⟨#[]⟩, .int .i64 0, .int .i64 0, .slice none 0 0, .slice none 0 0, .slice none 0 0] 30 (0, 0))
              have T3 : (w2.alloc (.cells #[.int .i64 0, .bool false, .int .i64 0, .int .i64 0, .string ⟨#[]⟩, .int .i64 0, .int .i64 0, .slice none 0 0, .slice none 0 0, .slice none 0 0] 30 (0, 0))).heap[tb]? = some (.cells #[.int .i64 0, .bool false, .int .i64 0, .int .i64 0, .string ⟨#[]⟩, .int .i64 0, .int .i64 0, .slice none 0 0, .slice none 0 0, .slice none 0 0] 30 (0, 0)) := by rw [htb]; exact heap_alloc_new w2 _
              clear htb
              have F3 := F2.trans f3
              have B3 := f3.obj B2 id
              have O3 := f3.obj O2 id
              have U3 := f3.obj U2 id
              have oc3 := oc2.no f3
              clear f3
              revert T3 F3 B3 O3 U3 oc3
              generalize w2.alloc (.cells #[.int .i64 0, .bool false, .int .i64 0, .int .i64 0, .string ⟨#[]⟩, .int .i64 0, .int .i64 0, .slice none 0 0, .slice none 0 0, .slice none 0 0] 30 (0, 0)) = w3
              intro T3 F3 B3 O3 U3 oc3
              clear qb0 qb1 qb2 qb3 qb4 qb5 qb6 qb7 qb8 qb9 qo0 qo1 qo2 qo3 qo4 qo5 qo6 qo7 qo8 qo9 qo10 qo11 qo12 qo13
              obtain ⟨qb0, qb1, qb2, qb3, qb4, qb5, qb6, qb7, qb8, qb9⟩ := obj10 B3
              obtain ⟨qo0, qo1, qo2, qo3, qo4, qo5, qo6, qo7, qo8, qo9, qo10, qo11, qo12, qo13⟩ := obj14 O3
              have nb3 := lt_of_block B3
              have no3 := lt_of_block O3
              have nt3 := lt_of_block T3
              have nu3 := lt_of_block U3
              go_wp2_with (fail)
              refine ⟨(again_cons (again_of rfl rfl ?_) again_nil), ?_⟩
              · go_simp
              go_wp2_with (fail)
              refine (HCO.out w3 F3).mono ?_
              rintro e w4 ⟨a4, c4, a5, c5, rfl, oo4, f4⟩
              have F4 := F3.trans f4
              have B4 := f4.obj B3 id
              have O4 := f4.obj O3 id
              have U4 := f4.obj U3 id
              have T4 := f4.obj T3 id
              have oc4 := oc3.no f4
              clear f4
              clear qb0 qb1 qb2 qb3 qb4 qb5 qb6 qb7 qb8 qb9 qo0 qo1 qo2 qo3 qo4 qo5 qo6 qo7 qo8 qo9 qo10 qo11 qo12 qo13
              obtain ⟨qb0, qb1, qb2, qb3, qb4, qb5, qb6, qb7, qb8, qb9⟩ := obj10 B4
              obtain ⟨qo0, qo1, qo2, qo3, qo4, qo5, qo6, qo7, qo8, qo9, qo10, qo11, qo12, qo13⟩ := obj14 O4
              have nb4 := lt_of_block B4
              have no4 := lt_of_block O4
              have nt4 := lt_of_block T4
              have nu4 := lt_of_block U4
              go_wp2_with (refine wpList_sto _ rfl (.tmp 11) (.tmp 26) 30 rfl T4 (by kernel_rfl) (by rfl) (vs := [.int .i64 c.kind, .bool c.set, .int .i64 c.st.1, .int .i64 c.st.2, .string c.value, .int .i64 c.num.1, .int .i64 c.num.2, .slice a1 c.ents.length c1, .slice a2 c.elems.length c2, .slice a3 c.seen.length c3]) (by intro u hu; simp only [List.mem_cons, List.not_mem_nil, or_false] at hu; rcases hu with rfl | rfl | rfl | rfl | rfl | rfl | rfl | rfl | rfl | rfl <;> rfl) rfl rfl ?_)
              intro w5 T5 f5 z5
              have B5 := f5.obj B4 (by omega)
              have O5 := f5.obj O4 (by omega)
              have U5 := f5.obj U4 (fun e => hTU e.symm)
              have F5 := F4.then f5 fun k hk e => by omega
              go_wp2_with (refine wpList_sto _ rfl (.tmp 12) (.tmp 28) 35 rfl U5 (by kernel_rfl) (by rfl) (vs := [.int .i64 o.dot.1, .int .i64 o.dot.2, .int .i64 o.time, .slice a4 o.deps.length c4, .int .i64 o.kind, .string o.type, .string o.id, .string o.field, .string o.value, .int .i64 o.num.1, .int .i64 o.num.2, .int .i64 o.ref.1, .int .i64 o.ref.2, .slice a5 o.dots.length c5]) (by intro u hu; simp only [List.mem_cons, List.not_mem_nil, or_false] at hu; rcases hu with rfl | rfl | rfl | rfl | rfl | rfl | rfl | rfl | rfl | rfl | rfl | rfl | rfl | rfl <;> rfl) rfl rfl ?_)
              intro w6 U6 f6 z6
              go_wp2_with (fail)
              exact KEY.out w6 tb ub a1 c1 a2 c2 a3 c3 a4 c4 a5 c5 ⟨F5.then f6 fun k hk e => by omega, f6.obj B5 (by omega), f6.obj O5 (by omega), f6.obj T5 (fun e => hTU e), U6, ((oc4.off T4 (.inl rfl) f5).off U5 (.inr rfl) f6).rd, ((oo4.off T4 (.inl rfl) f5).off U5 (.inr rfl) f6).rd⟩
    · as_aux_lemma =>
        go_wp2_with (fail)
        obtain ⟨tb, htb⟩ : ∃ x, x = w0.heap.size := ⟨_, rfl⟩
        rw [← htb]
        have hTB : w.heap.size + 2 ≤ tb := by omega
        have f1 := (Frm.refl No w0).al (.cells #[.int .i64 0, .bool false, .int .i64 0, .int .i64 0, .string ⟨#[]⟩, .int .i64 0, .int .i64 0, .slice none 0 0, .slice none 0 0, .slice none 0 0] 30 (0, 0))
        have T1 : (w0.alloc (.cells #[.int .i64 0, .bool false, .int .i64 0, .int .i64 0, .string ⟨#[]⟩, .int .i64 0, .int .i64 0, .slice none 0 0, .slice none 0 0, .slice none 0 0] 30 (0, 0))).heap[tb]? = some (.cells #[.int .i64 0, .bool false, .int .i64 0, .int .i64 0, .string ⟨#[]⟩, .int .i64 0, .int .i64 0, .slice none 0 0, .slice none 0 0, .slice none 0 0] 30 (0, 0)) := by rw [htb]; exact heap_alloc_new w0 _
        clear htb
        have F1 := F0.trans f1
        have B1 := f1.obj B0 id
        have O1 := f1.obj O0 id
        clear f1
        revert T1 F1 B1 O1
        generalize w0.alloc (.cells #[.int .i64 0, .bool false, .int .i64 0, .int .i64 0, .string ⟨#[]⟩, .int .i64 0, .int .i64 0, .slice none 0 0, .slice none 0 0, .slice none 0 0] 30 (0, 0)) = w1
        intro T1 F1 B1 O1
        clear qb0 qb1 qb2 qb3 qb4 qb5 qb6 qb7 qb8 qb9 qo0 qo1 qo2 qo3 qo4 qo5 qo6 qo7 qo8 qo9 qo10 qo11 qo12 qo13
        obtain ⟨qb0, qb1, qb2, qb3, qb4, qb5, qb6, qb7, qb8, qb9⟩ := obj10 B1
        obtain ⟨qo0, qo1, qo2, qo3, qo4, qo5, qo6, qo7, qo8, qo9, qo10, qo11, qo12, qo13⟩ := obj14 O1
        have nb1 := lt_of_block B1
        have no1 := lt_of_block O1
        have nt1 := lt_of_block T1
        go_wp2_with (fail)
        refine ⟨(again_cons (again_of rfl rfl ?_) (again_cons (again_of rfl rfl ?_) again_nil)), ?_⟩
        · go_simp
        · go_simp
        refine ⟨?_, ?_⟩
        · go_wp2_with (fail)
          refine (HCC.out w1 F1).mono ?_
          rintro e w2 ⟨a1, c1, a2, c2, a3, c3, rfl, oc2, f2⟩
          have F2 := F1.trans f2
          have B2 := f2.obj B1 id
          have O2 := f2.obj O1 id
          have T2 := f2.obj T1 id
          clear f2
          clear qb0 qb1 qb2 qb3 qb4 qb5 qb6 qb7 qb8 qb9 qo0 qo1 qo2 qo3 qo4 qo5 qo6 qo7 qo8 qo9 qo10 qo11 qo12 qo13
          obtain ⟨qb0, qb1, qb2, qb3, qb4, qb5, qb6, qb7, qb8, qb9⟩ := obj10 B2
          obtain ⟨qo0, qo1, qo2, qo3, qo4, qo5, qo6, qo7, qo8, qo9, qo10, qo11, qo12, qo13⟩ := obj14 O2
          have nb2 := lt_of_block B2
          have no2 := lt_of_block O2
          have nt2 := lt_of_block T2
          go_wp2_with (fail)
          refine ⟨(again_cons (again_of rfl rfl ?_) again_nil), ?_⟩
          · go_simp
          refine ⟨?_, ?_⟩
          · go_wp2_with (fail)
            refine (HCO.out w2 F2).mono ?_
            rintro e w3 ⟨a4, c4, a5, c5, rfl, oo3, f3⟩
            have F3 := F2.trans f3
            have B3 := f3.obj B2 id
            have O3 := f3.obj O2 id
            have T3 := f3.obj T2 id
            have oc3 := oc2.no f3
            clear f3
            clear qb0 qb1 qb2 qb3 qb4 qb5 qb6 qb7 qb8 qb9 qo0 qo1 qo2 qo3 qo4 qo5 qo6 qo7 qo8 qo9 qo10 qo11 qo12 qo13
            obtain ⟨qb0, qb1, qb2, qb3, qb4, qb5, qb6, qb7, qb8, qb9⟩ := obj10 B3
            obtain ⟨qo0, qo1, qo2, qo3, qo4, qo5, qo6, qo7, qo8, qo9, qo10, qo11, qo12, qo13⟩ := obj14 O3
            have nb3 := lt_of_block B3
            have no3 := lt_of_block O3
            have nt3 := lt_of_block T3
            go_wp2_with (refine wpList_sto _ rfl (.tmp 11) (.tmp 26) 30 rfl (al_old T3) (by kernel_rfl) (by rfl) (vs := [.int .i64 c.kind, .bool c.set, .int .i64 c.st.1, .int .i64 c.st.2, .string c.value, .int .i64 c.num.1, .int .i64 c.num.2, .slice a1 c.ents.length c1, .slice a2 c.elems.length c2, .slice a3 c.seen.length c3]) (by intro u hu; simp only [List.mem_cons, List.not_mem_nil, or_false] at hu; rcases hu with rfl | rfl | rfl | rfl | rfl | rfl | rfl | rfl | rfl | rfl <;> rfl) rfl rfl ?_)
            intro w4 T4 f4 z4
            obtain ⟨ub, hub⟩ : ∃ x, x = w3.heap.size := ⟨_, rfl⟩
            rw [← hub]
            have U3 : (w3.alloc (.cells #[.int .i64 0, .int .i64 0, .int .i64 0, .slice none 0 0, .int .i64 0, .string ⟨#[]⟩, .string ⟨#[]⟩, .string ⟨#[]⟩, .string ⟨#[]⟩, .int .i64 0, .int .i64 0, .int .i64 0, .int .i64 0, .slice none 0 0] 35 (0, 0))).heap[ub]? = some (.cells #[.int .i64 0, .int .i64 0, .int .i64 0, .slice none 0 0, .int .i64 0, .string ⟨#[]⟩, .string ⟨#[]⟩, .string ⟨#[]⟩, .string ⟨#[]⟩, .int .i64 0, .int .i64 0, .int .i64 0, .int .i64 0, .slice none 0 0] 35 (0, 0)) := by rw [hub]; exact heap_alloc_new w3 _
            have hTU : ¬ tb = ub := by omega
            have hUB : w.heap.size + 2 ≤ ub := by omega
            clear hub
            have B4 := f4.obj (al_old B3) (by omega)
            have O4 := f4.obj (al_old O3) (by omega)
            have U4 := f4.obj U3 (fun e => hTU e.symm)
            have F4 := (F3.al (.cells #[.int .i64 0, .int .i64 0, .int .i64 0, .slice none 0 0, .int .i64 0, .string ⟨#[]⟩, .string ⟨#[]⟩, .string ⟨#[]⟩, .string ⟨#[]⟩, .int .i64 0, .int .i64 0, .int .i64 0, .int .i64 0, .slice none 0 0] 35 (0, 0))).then f4 fun k hk e => by omega
            have oc4 := (oc3.no ((Frm.refl No w3).al (.cells #[.int .i64 0, .int .i64 0, .int .i64 0, .slice none 0 0, .int .i64 0, .string ⟨#[]⟩, .string ⟨#[]⟩, .string ⟨#[]⟩, .string ⟨#[]⟩, .int .i64 0, .int .i64 0, .int .i64 0, .int .i64 0, .slice none 0 0] 35 (0, 0)))).off (al_old T3) (.inl rfl) f4
            have oo4 := (oo3.no ((Frm.refl No w3).al (.cells #[.int .i64 0, .int .i64 0, .int .i64 0, .slice none 0 0, .int .i64 0, .string ⟨#[]⟩, .string ⟨#[]⟩, .string ⟨#[]⟩, .string ⟨#[]⟩, .int .i64 0, .int .i64 0, .int .i64 0, .int .i64 0, .slice none 0 0] 35 (0, 0)))).off (al_old T3) (.inl rfl) f4
            go_wp2_with (refine wpList_sto _ rfl (.tmp 12) (.tmp 28) 35 rfl U4 (by kernel_rfl) (by rfl) (vs := [.int .i64 o.dot.1, .int .i64 o.dot.2, .int .i64 o.time, .slice a4 o.deps.length c4, .int .i64 o.kind, .string o.type, .string o.id, .string o.field, .string o.value, .int .i64 o.num.1, .int .i64 o.num.2, .int .i64 o.ref.1, .int .i64 o.ref.2, .slice a5 o.dots.length c5]) (by intro u hu; simp only [List.mem_cons, List.not_mem_nil, or_false] at hu; rcases hu with rfl | rfl | rfl | rfl | rfl | rfl | rfl | rfl | rfl | rfl | rfl | rfl | rfl | rfl <;> rfl) rfl rfl ?_)
            intro w5 U5 f5 z5
            go_wp2_with (fail)
            exact KEY.out w5 tb ub a1 c1 a2 c2 a3 c3 a4 c4 a5 c5 ⟨F4.then f5 fun k hk e => by omega, f5.obj B4 (by omega), f5.obj O4 (by omega), f5.obj T4 (fun e => hTU e), U5, (oc4.off U4 (.inr rfl) f5).rd, (oo4.off U4 (.inr rfl) f5).rd⟩
          · as_aux_lemma =>
              go_wp2_with (fail)
              obtain ⟨ub, hub⟩ : ∃ x, x = w2.heap.size := ⟨_, rfl⟩
              rw [← hub]
              have hUB : w.heap.size + 2 ≤ ub := by omega
              have hTU : ¬ tb = ub := by omega
              have f3 := (Frm.refl No w2).al (.cells #[.int .i64 0, .int .i64 0, .int .i64 0, .slice none 0 0, .int .i64 0, .string ⟨#[]⟩, .string ⟨#[]⟩, .string ⟨#[]⟩, .string ⟨#[]⟩, .int .i64 0, .int .i64 0, .int .i64 0, .int .i64 0, .slice none 0 0] 35 (0, 0))
              have U3 : (w2.alloc (.cells #[.int .i64 0, .int .i64 0, .int .i64 0, .slice none 0 0, .int .i64 0, .string ⟨#[]⟩, .string ⟨#[]⟩, .string ⟨#[]⟩, .string ⟨#[]⟩, .int .i64 0, .int .i64 0, .int .i64 0, .int .i64 0, .slice none 0 0] 35 (0, 0))).heap[ub]? = some (.cells #[.int .i64 0, .int .i64 0, .int .i64 0, .slice none 0 0, .int .i64 0, .string ⟨#[]⟩, .string ⟨#[]⟩, .string ⟨#[]⟩, .string ⟨#[]⟩, .int .i64 0, .int .i64 0, .int .i64 0, .int .i64 0, .slice none 0 0] 35 (0, 0)) := by rw [hub]; exact heap_alloc_new w2 _
              clear hub
              have F3 := F2.trans f3
              have B3 := f3.obj B2 id
              have O3 := f3.obj O2 id
              have T3 := f3.obj T2 id
              have oc3 := oc2.no f3
              clear f3
              revert U3 F3 B3 O3 T3 oc3
              generalize w2.alloc (.cells #[.int .i64 0, .int .i64 0, .int .i64 0, .slice none 0 0, .int .i64 0, .string ⟨#[]⟩, .string ⟨#[]⟩, .string ⟨#[]⟩, .string ⟨#[]⟩, .int .i64 0, .int .i64 0, .int .i64 0, .int .i64 0, .slice none 0 0] 35 (0, 0)) = w3
              intro U3 F3 B3 O3 T3 oc3
              clear qb0 qb1 qb2 qb3 qb4 qb5 qb6 qb7 qb8 qb9 qo0 qo1 qo2 qo3 qo4 qo5 qo6 qo7 qo8 qo9 qo10 qo11 qo12 qo13
              obtain ⟨qb0, qb1, qb2, qb3, qb4, qb5, qb6, qb7, qb8, qb9⟩ := obj10 B3
              obtain ⟨qo0, qo1, qo2, qo3, qo4, qo5, qo6, qo7, qo8, qo9, qo10, qo11, qo12, qo13⟩ := obj14 O3
              have nb3 := lt_of_block B3
              have no3 := lt_of_block O3
              have nt3 := lt_of_block T3
              have nu3 := lt_of_block U3
              go_wp2_with (fail)
              refine ⟨(again_cons (again_of rfl rfl ?_) again_nil), ?_⟩
              · go_simp
              go_wp2_with (fail)
              refine (HCO.out w3 F3).mono ?_
              rintro e w4 ⟨a4, c4, a5, c5, rfl, oo4, f4⟩
              have F4 := F3.trans f4
              have B4 := f4.obj B3 id
              have O4 := f4.obj O3 id
              have T4 := f4.obj T3 id
              have U4 := f4.obj U3 id
              have oc4 := oc3.no f4
              clear f4
              clear qb0 qb1 qb2 qb3 qb4 qb5 qb6 qb7 qb8 qb9 qo0 qo1 qo2 qo3 qo4 qo5 qo6 qo7 qo8 qo9 qo10 qo11 qo12 qo13
              obtain ⟨qb0, qb1, qb2, qb3, qb4, qb5, qb6, qb7, qb8, qb9⟩ := obj10 B4
              obtain ⟨qo0, qo1, qo2, qo3, qo4, qo5, qo6, qo7, qo8, qo9, qo10, qo11, qo12, qo13⟩ := obj14 O4
              have nb4 := lt_of_block B4
              have no4 := lt_of_block O4
              have nt4 := lt_of_block T4
              have nu4 := lt_of_block U4
              go_wp2_with (refine wpList_sto _ rfl (.tmp 11) (.tmp 26) 30 rfl T4 (by kernel_rfl) (by rfl) (vs := [.int .i64 c.kind, .bool c.set, .int .i64 c.st.1, .int .i64 c.st.2, .string c.value, .int .i64 c.num.1, .int .i64 c.num.2, .slice a1 c.ents.length c1, .slice a2 c.elems.length c2, .slice a3 c.seen.length c3]) (by intro u hu; simp only [List.mem_cons, List.not_mem_nil, or_false] at hu; rcases hu with rfl | rfl | rfl | rfl | rfl | rfl | rfl | rfl | rfl | rfl <;> rfl) rfl rfl ?_)
              intro w5 T5 f5 z5
              have B5 := f5.obj B4 (by omega)
              have O5 := f5.obj O4 (by omega)
              have U5 := f5.obj U4 (fun e => hTU e.symm)
              have F5 := F4.then f5 fun k hk e => by omega
              go_wp2_with (refine wpList_sto _ rfl (.tmp 12) (.tmp 28) 35 rfl U5 (by kernel_rfl) (by rfl) (vs := [.int .i64 o.dot.1, .int .i64 o.dot.2, .int .i64 o.time, .slice a4 o.deps.length c4, .int .i64 o.kind, .string o.type, .string o.id, .string o.field, .string o.value, .int .i64 o.num.1, .int .i64 o.num.2, .int .i64 o.ref.1, .int .i64 o.ref.2, .slice a5 o.dots.length c5]) (by intro u hu; simp only [List.mem_cons, List.not_mem_nil, or_false] at hu; rcases hu with rfl | rfl | rfl | rfl | rfl | rfl | rfl | rfl | rfl | rfl | rfl | rfl | rfl | rfl <;> rfl) rfl rfl ?_)
              intro w6 U6 f6 z6
              go_wp2_with (fail)
              exact KEY.out w6 tb ub a1 c1 a2 c2 a3 c3 a4 c4 a5 c5 ⟨F5.then f6 fun k hk e => by omega, f6.obj B5 (by omega), f6.obj O5 (by omega), f6.obj T5 (fun e => hTU e), U6, ((oc4.off T4 (.inl rfl) f5).off U5 (.inr rfl) f6).rd, ((oo4.off T4 (.inl rfl) f5).off U5 (.inr rfl) f6).rd⟩
        · as_aux_lemma =>
            go_wp2_with (fail)
            obtain ⟨ub, hub⟩ : ∃ x, x = w1.heap.size := ⟨_, rfl⟩
            rw [← hub]
            have hUB : w.heap.size + 2 ≤ ub := by omega
            have hTU : ¬ tb = ub := by omega
            have f2 := (Frm.refl No w1).al (.cells #[.int .i64 0, .int .i64 0, .int .i64 0, .slice none 0 0, .int .i64 0, .string ⟨#[]⟩, .string ⟨#[]⟩, .string ⟨#[]⟩, .string ⟨#[]⟩, .int .i64 0, .int .i64 0, .int .i64 0, .int .i64 0, .slice none 0 0] 35 (0, 0))
            have U2 : (w1.alloc (.cells #[.int .i64 0, .int .i64 0, .int .i64 0, .slice none 0 0, .int .i64 0, .string ⟨#[]⟩, .string ⟨#[]⟩, .string ⟨#[]⟩, .string ⟨#[]⟩, .int .i64 0, .int .i64 0, .int .i64 0, .int .i64 0, .slice none 0 0] 35 (0, 0))).heap[ub]? = some (.cells #[.int .i64 0, .int .i64 0, .int .i64 0, .slice none 0 0, .int .i64 0, .string ⟨#[]⟩, .string ⟨#[]⟩, .string ⟨#[]⟩, .string ⟨#[]⟩, .int .i64 0, .int .i64 0, .int .i64 0, .int .i64 0, .slice none 0 0] 35 (0, 0)) := by rw [hub]; exact heap_alloc_new w1 _
            clear hub
            have F2 := F1.trans f2
            have B2 := f2.obj B1 id
            have O2 := f2.obj O1 id
            have T2 := f2.obj T1 id
            clear f2
            revert U2 F2 B2 O2 T2
            generalize w1.alloc (.cells #[.int .i64 0, .int .i64 0, .int .i64 0, .slice none 0 0, .int .i64 0, .string ⟨#[]⟩, .string ⟨#[]⟩, .string ⟨#[]⟩, .string ⟨#[]⟩, .int .i64 0, .int .i64 0, .int .i64 0, .int .i64 0, .slice none 0 0] 35 (0, 0)) = w2
            intro U2 F2 B2 O2 T2
            clear qb0 qb1 qb2 qb3 qb4 qb5 qb6 qb7 qb8 qb9 qo0 qo1 qo2 qo3 qo4 qo5 qo6 qo7 qo8 qo9 qo10 qo11 qo12 qo13
            obtain ⟨qb0, qb1, qb2, qb3, qb4, qb5, qb6, qb7, qb8, qb9⟩ := obj10 B2
            obtain ⟨qo0, qo1, qo2, qo3, qo4, qo5, qo6, qo7, qo8, qo9, qo10, qo11, qo12, qo13⟩ := obj14 O2
            have nb2 := lt_of_block B2
            have no2 := lt_of_block O2
            have nt2 := lt_of_block T2
            have nu2 := lt_of_block U2
            go_wp2_with (fail)
            refine ⟨(again_cons (again_of rfl rfl ?_) (again_cons (again_of rfl rfl ?_) again_nil)), ?_⟩
            · go_simp
            · go_simp
            go_wp2_with (fail)
            refine (HCC.out w2 F2).mono ?_
            rintro e w3 ⟨a1, c1, a2, c2, a3, c3, rfl, oc3, f3⟩
            have F3 := F2.trans f3
            have B3 := f3.obj B2 id
            have O3 := f3.obj O2 id
            have T3 := f3.obj T2 id
            have U3 := f3.obj U2 id
            clear f3
            clear qb0 qb1 qb2 qb3 qb4 qb5 qb6 qb7 qb8 qb9 qo0 qo1 qo2 qo3 qo4 qo5 qo6 qo7 qo8 qo9 qo10 qo11 qo12 qo13
            obtain ⟨qb0, qb1, qb2, qb3, qb4, qb5, qb6, qb7, qb8, qb9⟩ := obj10 B3
            obtain ⟨qo0, qo1, qo2, qo3, qo4, qo5, qo6, qo7, qo8, qo9, qo10, qo11, qo12, qo13⟩ := obj14 O3
            have nb3 := lt_of_block B3
            have no3 := lt_of_block O3
            have nt3 := lt_of_block T3
            have nu3 := lt_of_block U3
            go_wp2_with (fail)
            refine ⟨(again_cons (again_of rfl rfl ?_) again_nil), ?_⟩
            · go_simp
            go_wp2_with (fail)
            refine (HCO.out w3 F3).mono ?_
            rintro e w4 ⟨a4, c4, a5, c5, rfl, oo4, f4⟩
            have F4 := F3.trans f4
            have B4 := f4.obj B3 id
            have O4 := f4.obj O3 id
            have T4 := f4.obj T3 id
            have U4 := f4.obj U3 id
            have oc4 := oc3.no f4
            clear f4
            clear qb0 qb1 qb2 qb3 qb4 qb5 qb6 qb7 qb8 qb9 qo0 qo1 qo2 qo3 qo4 qo5 qo6 qo7 qo8 qo9 qo10 qo11 qo12 qo13
            obtain ⟨qb0, qb1, qb2, qb3, qb4, qb5, qb6, qb7, qb8, qb9⟩ := obj10 B4
            obtain ⟨qo0, qo1, qo2, qo3, qo4, qo5, qo6, qo7, qo8, qo9, qo10, qo11, qo12, qo13⟩ := obj14 O4
            have nb4 := lt_of_block B4
            have no4 := lt_of_block O4
            have nt4 := lt_of_block T4
            have nu4 := lt_of_block U4
            go_wp2_with (refine wpList_sto _ rfl (.tmp 11) (.tmp 26) 30 rfl T4 (by kernel_rfl) (by rfl) (vs := [.int .i64 c.kind, .bool c.set, .int .i64 c.st.1, .int .i64 c.st.2, .string c.value, .int .i64 c.num.1, .int .i64 c.num.2, .slice a1 c.ents.length c1, .slice a2 c.elems.length c2, .slice a3 c.seen.length c3]) (by intro u hu; simp only [List.mem_cons, List.not_mem_nil, or_false] at hu; rcases hu with rfl | rfl | rfl | rfl | rfl | rfl | rfl | rfl | rfl | rfl <;> rfl) rfl rfl ?_)
            intro w5 T5 f5 z5
            have B5 := f5.obj B4 (by omega)
            have O5 := f5.obj O4 (by omega)
            have U5 := f5.obj U4 (fun e => hTU e.symm)
            have F5 := F4.then f5 fun k hk e => by omega
            go_wp2_with (refine wpList_sto _ rfl (.tmp 12) (.tmp 28) 35 rfl U5 (by kernel_rfl) (by rfl) (vs := [.int .i64 o.dot.1, .int .i64 o.dot.2, .int .i64 o.time, .slice a4 o.deps.length c4, .int .i64 o.kind, .string o.type, .string o.id, .string o.field, .string o.value, .int .i64 o.num.1, .int .i64 o.num.2, .int .i64 o.ref.1, .int .i64 o.ref.2, .slice a5 o.dots.length c5]) (by intro u hu; simp only [List.mem_cons, List.not_mem_nil, or_false] at hu; rcases hu with rfl | rfl | rfl | rfl | rfl | rfl | rfl | rfl | rfl | rfl | rfl | rfl | rfl | rfl <;> rfl) rfl rfl ?_)
            intro w6 U6 f6 z6
            go_wp2_with (fail)
            exact KEY.out w6 tb ub a1 c1 a2 c2 a3 c3 a4 c4 a5 c5 ⟨F5.then f6 fun k hk e => by omega, f6.obj B5 (by omega), f6.obj O5 (by omega), f6.obj T5 (fun e => hTU e), U6, ((oc4.off T4 (.inl rfl) f5).off U5 (.inr rfl) f6).rd, ((oo4.off T4 (.inl rfl) f5).off U5 (.inr rfl) f6).rd⟩
    · as_aux_lemma =>
        go_wp2_with (fail)
        obtain ⟨ub, hub⟩ : ∃ x, x = w0.heap.size := ⟨_, rfl⟩
        rw [← hub]
        have hUB : w.heap.size + 2 ≤ ub := by omega
        have f1 := (Frm.refl No w0).al (.cells #[.int .i64 0, .int .i64 0, .int .i64 0, .slice none 0 0, .int .i64 0, .string ⟨#[]⟩, .string ⟨#[]⟩, .string ⟨#[]⟩, .string ⟨#[]⟩, .int .i64 0, .int .i64 0, .int .i64 0, .int .i64 0, .slice none 0 0] 35 (0, 0))
        have U1 : (w0.alloc (.cells #[.int .i64 0, .int .i64 0, .int .i64 0, .slice none 0 0, .int .i64 0, .string ⟨#[]⟩, .string ⟨#[]⟩, .string ⟨#[]⟩, .string ⟨#[]⟩, .int .i64 0, .int .i64 0, .int .i64 0, .int .i64 0, .slice none 0 0] 35 (0, 0))).heap[ub]? = some (.cells #[.int .i64 0, .int .i64 0, .int .i64 0, .slice none 0 0, .int .i64 0, .string ⟨#[]⟩, .string ⟨#[]⟩, .string ⟨#[]⟩, .string ⟨#[]⟩, .int .i64 0, .int .i64 0, .int .i64 0, .int .i64 0, .slice none 0 0] 35 (0, 0)) := by rw [hub]; exact heap_alloc_new w0 _
        clear hub
        have F1 := F0.trans f1
        have B1 := f1.obj B0 id
        have O1 := f1.obj O0 id
        clear f1
        revert U1 F1 B1 O1
        generalize w0.alloc (.cells #[.int .i64 0, .int .i64 0, .int .i64 0, .slice none 0 0, .int .i64 0, .string ⟨#[]⟩, .string ⟨#[]⟩, .string ⟨#[]⟩, .string ⟨#[]⟩, .int .i64 0, .int .i64 0, .int .i64 0, .int .i64 0, .slice none 0 0] 35 (0, 0)) = w1
        intro U1 F1 B1 O1
        clear qb0 qb1 qb2 qb3 qb4 qb5 qb6 qb7 qb8 qb9 qo0 qo1 qo2 qo3 qo4 qo5 qo6 qo7 qo8 qo9 qo10 qo11 qo12 qo13
        obtain ⟨qb0, qb1, qb2, qb3, qb4, qb5, qb6, qb7, qb8, qb9⟩ := obj10 B1
        obtain ⟨qo0, qo1, qo2, qo3, qo4, qo5, qo6, qo7, qo8, qo9, qo10, qo11, qo12, qo13⟩ := obj14 O1
        have nb1 := lt_of_block B1
        have no1 := lt_of_block O1
        have nu1 := lt_of_block U1
        go_wp2_with (fail)
        refine ⟨(again_cons (again_of rfl rfl ?_) (again_cons (again_of rfl rfl ?_) again_nil)), ?_⟩
        · go_simp
        · go_simp
        refine ⟨?_, ?_⟩
        · go_wp2_with (fail)
          refine (HCC.out w1 F1).mono ?_
          rintro e w2 ⟨a1, c1, a2, c2, a3, c3, rfl, oc2, f2⟩
          have F2 := F1.trans f2
          have B2 := f2.obj B1 id
          have O2 := f2.obj O1 id
          have U2 := f2.obj U1 id
          clear f2
          clear qb0 qb1 qb2 qb3 qb4 qb5 qb6 qb7 qb8 qb9 qo0 qo1 qo2 qo3 qo4 qo5 qo6 qo7 qo8 qo9 qo10 qo11 qo12 qo13
          obtain ⟨qb0, qb1, qb2, qb3, qb4, qb5, qb6, qb7, qb8, qb9⟩ := obj10 B2
          obtain ⟨qo0, qo1, qo2, qo3, qo4, qo5, qo6, qo7, qo8, qo9, qo10, qo11, qo12, qo13⟩ := obj14 O2
          have nb2 := lt_of_block B2
          have no2 := lt_of_block O2
          have nu2 := lt_of_block U2
          go_wp2_with (fail)
          refine ⟨(again_cons (again_of rfl rfl ?_) again_nil), ?_⟩
          · go_simp
          refine ⟨?_, ?_⟩
          · go_wp2_with (fail)
            refine (HCO.out w2 F2).mono ?_
            rintro e w3 ⟨a4, c4, a5, c5, rfl, oo3, f3⟩
            have F3 := F2.trans f3
            have B3 := f3.obj B2 id
            have O3 := f3.obj O2 id
            have U3 := f3.obj U2 id
            have oc3 := oc2.no f3
            clear f3
            clear qb0 qb1 qb2 qb3 qb4 qb5 qb6 qb7 qb8 qb9 qo0 qo1 qo2 qo3 qo4 qo5 qo6 qo7 qo8 qo9 qo10 qo11 qo12 qo13
            obtain ⟨qb0, qb1, qb2, qb3, qb4, qb5, qb6, qb7, qb8, qb9⟩ := obj10 B3
            obtain ⟨qo0, qo1, qo2, qo3, qo4, qo5, qo6, qo7, qo8, qo9, qo10, qo11, qo12, qo13⟩ := obj14 O3
            have nb3 := lt_of_block B3
            have no3 := lt_of_block O3
            have nu3 := lt_of_block U3
            go_wp2_with (refine wpList_sto _ rfl (.tmp 12) (.tmp 28) 35 rfl (al_old U3) (by kernel_rfl) (by rfl) (vs := [.int .i64 o.dot.1, .int .i64 o.dot.2, .int .i64 o.time, .slice a4 o.deps.length c4, .int .i64 o.kind, .string o.type, .string o.id, .string o.field, .string o.value, .int .i64 o.num.1, .int .i64 o.num.2, .int .i64 o.ref.1, .int .i64 o.ref.2, .slice a5 o.dots.length c5]) (by intro u hu; simp only [List.mem_cons, List.not_mem_nil, or_false] at hu; rcases hu with rfl | rfl | rfl | rfl | rfl | rfl | rfl | rfl | rfl | rfl | rfl | rfl | rfl | rfl <;> rfl) rfl rfl ?_)
            intro w5 U5 f5 z5
            obtain ⟨tb, htb⟩ : ∃ x, x = w3.heap.size := ⟨_, rfl⟩
            rw [← htb]
            have T3 : (w3.alloc (.cells #[.int .i64 c.kind, .bool c.set, .int .i64 c.st.1, .int .i64 c.st.2, .string c.value, .int .i64 c.num.1, .int .i64 c.num.2, .slice a1 c.ents.length c1, .slice a2 c.elems.length c2, .slice a3 c.seen.length c3] 30 (0, 0))).heap[tb]? = some (.cells #[.int .i64 c.kind, .bool c.set, .int .i64 c.st.1, .int .i64 c.st.2, .string c.value, .int .i64 c.num.1, .int .i64 c.num.2, .slice a1 c.ents.length c1, .slice a2 c.elems.length c2, .slice a3 c.seen.length c3] 30 (0, 0)) := by rw [htb]; exact heap_alloc_new w3 _
            have hTU : ¬ tb = ub := by omega
            have hTB : w.heap.size + 2 ≤ tb := by omega
            clear htb
            go_wp2_with (fail)
            exact KEY.out w5 tb ub a1 c1 a2 c2 a3 c3 a4 c4 a5 c5 ⟨(F3.al (.cells #[.int .i64 c.kind, .bool c.set, .int .i64 c.st.1, .int .i64 c.st.2, .string c.value, .int .i64 c.num.1, .int .i64 c.num.2, .slice a1 c.ents.length c1, .slice a2 c.elems.length c2, .slice a3 c.seen.length c3] 30 (0, 0))).then f5 fun k hk e => by omega, f5.obj (al_old B3) (by omega), f5.obj (al_old O3) (by omega), f5.obj T3 (fun e => hTU e), U5, ((oc3.no ((Frm.refl No w3).al (.cells #[.int .i64 c.kind, .bool c.set, .int .i64 c.st.1, .int .i64 c.st.2, .string c.value, .int .i64 c.num.1, .int .i64 c.num.2, .slice a1 c.ents.length c1, .slice a2 c.elems.length c2, .slice a3 c.seen.length c3] 30 (0, 0)))).off (al_old U3) (.inr rfl) f5).rd, ((oo3.no ((Frm.refl No w3).al (.cells #[.int .i64 c.kind, .bool c.set, .int .i64 c.st.1, .int .i64 c.st.2, .string c.value, .int .i64 c.num.1, .int .i64 c.num.2, .slice a1 c.ents.length c1, .slice a2 c.elems.length c2, .slice a3 c.seen.length c3] 30 (0, 0)))).off (al_old U3) (.inr rfl) f5).rd⟩
          · as_aux_lemma =>
              go_wp2_with (fail)
              obtain ⟨tb, htb⟩ : ∃ x, x = w2.heap.size := ⟨_, rfl⟩
              rw [← htb]
              have hTB : w.heap.size + 2 ≤ tb := by omega
              have hTU : ¬ tb = ub := by omega
              have f3 := (Frm.refl No w2).al (.cells #[.int .i64 0, .bool false, .int .i64 0, .int .i64 0, .string ⟨#[]⟩, .int .i64 0, .int .i64 0, .slice none 0 0, .slice none 0 0, .slice none 0 0] 30 (0, 0))
              have T3 : (w2.alloc (.cells #[.int .i64 0, .bool false, .int .i64 0, .int .i64 0, .string ⟨#[]⟩, .int .i64 0, .int .i64 0, .slice none 0 0, .slice none 0 0, .slice none 0 0] 30 (0, 0))).heap[tb]? = some (.cells #[.int .i64 0, .bool false, .int .i64 0, .int .i64 0, .string ⟨#[]⟩, .int .i64 0, .int .i64 0, .slice none 0 0, .slice none 0 0, .slice none 0 0] 30 (0, 0)) := by rw [htb]; exact heap_alloc_new w2 _
              clear htb
              have F3 := F2.trans f3
              have B3 := f3.obj B2 id
              have O3 := f3.obj O2 id
              have U3 := f3.obj U2 id
              have oc3 := oc2.no f3
              clear f3
              revert T3 F3 B3 O3 U3 oc3
              generalize w2.alloc (.cells #[.int .i64 0, .bool false, .int .i64 0, .int .i64 0, .string ⟨#[]⟩, .int .i64 0, .int .i64 0, .slice none 0 0, .slice none 0 0, .slice none 0 0] 30 (0, 0)) = w3
              intro T3 F3 B3 O3 U3 oc3
              clear qb0 qb1 qb2 qb3 qb4 qb5 qb6 qb7 qb8 qb9 qo0 qo1 qo2 qo3 qo4 qo5 qo6 qo7 qo8 qo9 qo10 qo11 qo12 qo13
              obtain ⟨qb0, qb1, qb2, qb3, qb4, qb5, qb6, qb7, qb8, qb9⟩ := obj10 B3
              obtain ⟨qo0, qo1, qo2, qo3, qo4, qo5, qo6, qo7, qo8, qo9, qo10, qo11, qo12, qo13⟩ := obj14 O3
              have nb3 := lt_of_block B3
              have no3 := lt_of_block O3
              have nt3 := lt_of_block T3
              have nu3 := lt_of_block U3
              go_wp2_with (fail)
              refine ⟨(again_cons (again_of rfl rfl ?_) again_nil), ?_⟩
              · go_simp
              go_wp2_with (fail)
              refine (HCO.out w3 F3).mono ?_
              rintro e w4 ⟨a4, c4, a5, c5, rfl, oo4, f4⟩
              have F4 := F3.trans f4
              have B4 := f4.obj B3 id
              have O4 := f4.obj O3 id
              have U4 := f4.obj U3 id
              have T4 := f4.obj T3 id
              have oc4 := oc3.no f4
              clear f4
              clear qb0 qb1 qb2 qb3 qb4 qb5 qb6 qb7 qb8 qb9 qo0 qo1 qo2 qo3 qo4 qo5 qo6 qo7 qo8 qo9 qo10 qo11 qo12 qo13
              obtain ⟨qb0, qb1, qb2, qb3, qb4, qb5, qb6, qb7, qb8, qb9⟩ := obj10 B4
              obtain ⟨qo0, qo1, qo2, qo3, qo4, qo5, qo6, qo7, qo8, qo9, qo10, qo11, qo12, qo13⟩ := obj14 O4
              have nb4 := lt_of_block B4
              have no4 := lt_of_block O4
              have nt4 := lt_of_block T4
              have nu4 := lt_of_block U4
              go_wp2_with (refine wpList_sto _ rfl (.tmp 11) (.tmp 26) 30 rfl T4 (by kernel_rfl) (by rfl) (vs := [.int .i64 c.kind, .bool c.set, .int .i64 c.st.1, .int .i64 c.st.2, .string c.value, .int .i64 c.num.1, .int .i64 c.num.2, .slice a1 c.ents.length c1, .slice a2 c.elems.length c2, .slice a3 c.seen.length c3]) (by intro u hu; simp only [List.mem_cons, List.not_mem_nil, or_false] at hu; rcases hu with rfl | rfl | rfl | rfl | rfl | rfl | rfl | rfl | rfl | rfl <;> rfl) rfl rfl ?_)
              intro w5 T5 f5 z5
              have B5 := f5.obj B4 (by omega)
              have O5 := f5.obj O4 (by omega)
              have U5 := f5.obj U4 (fun e => hTU e.symm)
              have F5 := F4.then f5 fun k hk e => by omega
              go_wp2_with (refine wpList_sto _ rfl (.tmp 12) (.tmp 28) 35 rfl U5 (by kernel_rfl) (by rfl) (vs := [.int .i64 o.dot.1, .int .i64 o.dot.2, .int .i64 o.time, .slice a4 o.deps.length c4, .int .i64 o.kind, .string o.type, .string o.id, .string o.field, .string o.value, .int .i64 o.num.1, .int .i64 o.num.2, .int .i64 o.ref.1, .int .i64 o.ref.2, .slice a5 o.dots.length c5]) (by intro u hu; simp only [List.mem_cons, List.not_mem_nil, or_false] at hu; rcases hu with rfl | rfl | rfl | rfl | rfl | rfl | rfl | rfl | rfl | rfl | rfl | rfl | rfl | rfl <;> rfl) rfl rfl ?_)
              intro w6 U6 f6 z6
              go_wp2_with (fail)
              exact KEY.out w6 tb ub a1 c1 a2 c2 a3 c3 a4 c4 a5 c5 ⟨F5.then f6 fun k hk e => by omega, f6.obj B5 (by omega), f6.obj O5 (by omega), f6.obj T5 (fun e => hTU e), U6, ((oc4.off T4 (.inl rfl) f5).off U5 (.inr rfl) f6).rd, ((oo4.off T4 (.inl rfl) f5).off U5 (.inr rfl) f6).rd⟩
        · as_aux_lemma =>
            go_wp2_with (fail)
            obtain ⟨tb, htb⟩ : ∃ x, x = w1.heap.size := ⟨_, rfl⟩
            rw [← htb]
            have hTB : w.heap.size + 2 ≤ tb := by omega
            have hTU : ¬ tb = ub := by omega
            have f2 := (Frm.refl No w1).al (.cells #[.int .i64 0, .bool false, .int .i64 0, .int .i64 0, .string ⟨#[]⟩, .int .i64 0, .int .i64 0, .slice none 0 0, .slice none 0 0, .slice none 0 0] 30 (0, 0))
            have T2 : (w1.alloc (.cells #[.int .i64 0, .bool false, .int .i64 0, .int .i64 0, .string ⟨#[]⟩, .int .i64 0, .int .i64 0, .slice none 0 0, .slice none 0 0, .slice none 0 0] 30 (0, 0))).heap[tb]? = some (.cells #[.int .i64 0, .bool false, .int .i64 0, .int .i64 0, .string ⟨#[]⟩, .int .i64 0, .int .i64 0, .slice none 0 0, .slice none 0 0, .slice none 0 0] 30 (0, 0)) := by rw [htb]; exact heap_alloc_new w1 _
            clear htb
            have F2 := F1.trans f2
            have B2 := f2.obj B1 id
            have O2 := f2.obj O1 id
            have U2 := f2.obj U1 id
            clear f2
            revert T2 F2 B2 O2 U2
            generalize w1.alloc (.cells #[.int .i64 0, .bool false, .int .i64 0, .int .i64 0, .string ⟨#[]⟩, .int .i64 0, .int .i64 0, .slice none 0 0, .slice none 0 0, .slice none 0 0] 30 (0, 0)) = w2
            intro T2 F2 B2 O2 U2
            clear qb0 qb1 qb2 qb3 qb4 qb5 qb6 qb7 qb8 qb9 qo0 qo1 qo2 qo3 qo4 qo5 qo6 qo7 qo8 qo9 qo10 qo11 qo12 qo13
            obtain ⟨qb0, qb1, qb2, qb3, qb4, qb5, qb6, qb7, qb8, qb9⟩ := obj10 B2
            obtain ⟨qo0, qo1, qo2, qo3, qo4, qo5, qo6, qo7, qo8, qo9, qo10, qo11, qo12, qo13⟩ := obj14 O2
            have nb2 := lt_of_block B2
            have no2 := lt_of_block O2
            have nt2 := lt_of_block T2
            have nu2 := lt_of_block U2
            go_wp2_with (fail)
            refine ⟨(again_cons (again_of rfl rfl ?_) (again_cons (again_of rfl rfl ?_) again_nil)), ?_⟩
            · go_simp
            · go_simp
            go_wp2_with (fail)
            refine (HCC.out w2 F2).mono ?_
            rintro e w3 ⟨a1, c1, a2, c2, a3, c3, rfl, oc3, f3⟩
            have F3 := F2.trans f3
            have B3 := f3.obj B2 id
            have O3 := f3.obj O2 id
            have U3 := f3.obj U2 id
            have T3 := f3.obj T2 id
            clear f3
            clear qb0 qb1 qb2 qb3 qb4 qb5 qb6 qb7 qb8 qb9 qo0 qo1 qo2 qo3 qo4 qo5 qo6 qo7 qo8 qo9 qo10 qo11 qo12 qo13
            obtain ⟨qb0, qb1, qb2, qb3, qb4, qb5, qb6, qb7, qb8, qb9⟩ := obj10 B3
            obtain ⟨qo0, qo1, qo2, qo3, qo4, qo5, qo6, qo7, qo8, qo9, qo10, qo11, qo12, qo13⟩ := obj14 O3
            have nb3 := lt_of_block B3
            have no3 := lt_of_block O3
            have nt3 := lt_of_block T3
            have nu3 := lt_of_block U3
            go_wp2_with (fail)
            refine ⟨(again_cons (again_of rfl rfl ?_) again_nil), ?_⟩
            · go_simp
            go_wp2_with (fail)
            refine (HCO.out w3 F3).mono ?_
            rintro e w4 ⟨a4, c4, a5, c5, rfl, oo4, f4⟩
            have F4 := F3.trans f4
            have B4 := f4.obj B3 id
            have O4 := f4.obj O3 id
            have U4 := f4.obj U3 id
            have T4 := f4.obj T3 id
            have oc4 := oc3.no f4
            clear f4
            clear qb0 qb1 qb2 qb3 qb4 qb5 qb6 qb7 qb8 qb9 qo0 qo1 qo2 qo3 qo4 qo5 qo6 qo7 qo8 qo9 qo10 qo11 qo12 qo13
            obtain ⟨qb0, qb1, qb2, qb3, qb4, qb5, qb6, qb7, qb8, qb9⟩ := obj10 B4
            obtain ⟨qo0, qo1, qo2, qo3, qo4, qo5, qo6, qo7, qo8, qo9, qo10, qo11, qo12, qo13⟩ := obj14 O4
            have nb4 := lt_of_block B4
            have no4 := lt_of_block O4
            have nt4 := lt_of_block T4
            have nu4 := lt_of_block U4
            go_wp2_with (refine wpList_sto _ rfl (.tmp 11) (.tmp 26) 30 rfl T4 (by kernel_rfl) (by rfl) (vs := [.int .i64 c.kind, .bool c.set, .int .i64 c.st.1, .int .i64 c.st.2, .string c.value, .int .i64 c.num.1, .int .i64 c.num.2, .slice a1 c.ents.length c1, .slice a2 c.elems.length c2, .slice a3 c.seen.length c3]) (by intro u hu; simp only [List.mem_cons, List.not_mem_nil, or_false] at hu; rcases hu with rfl | rfl | rfl | rfl | rfl | rfl | rfl | rfl | rfl | rfl <;> rfl) rfl rfl ?_)
            intro w5 T5 f5 z5
            have B5 := f5.obj B4 (by omega)
            have O5 := f5.obj O4 (by omega)
            have U5 := f5.obj U4 (fun e => hTU e.symm)
            have F5 := F4.then f5 fun k hk e => by omega
            go_wp2_with (refine wpList_sto _ rfl (.tmp 12) (.tmp 28) 35 rfl U5 (by kernel_rfl) (by rfl) (vs := [.int .i64 o.dot.1, .int .i64 o.dot.2, .int .i64 o.time, .slice a4 o.deps.length c4, .int .i64 o.kind, .string o.type, .string o.id, .string o.field, .string o.value, .int .i64 o.num.1, .int .i64 o.num.2, .int .i64 o.ref.1, .int .i64 o.ref.2, .slice a5 o.dots.length c5]) (by intro u hu; simp only [List.mem_cons, List.not_mem_nil, or_false] at hu; rcases hu with rfl | rfl | rfl | rfl | rfl | rfl | rfl | rfl | rfl | rfl | rfl | rfl | rfl | rfl <;> rfl) rfl rfl ?_)
            intro w6 U6 f6 z6
            go_wp2_with (fail)
            exact KEY.out w6 tb ub a1 c1 a2 c2 a3 c3 a4 c4 a5 c5 ⟨F5.then f6 fun k hk e => by omega, f6.obj B5 (by omega), f6.obj O5 (by omega), f6.obj T5 (fun e => hTU e), U6, ((oc4.off T4 (.inl rfl) f5).off U5 (.inr rfl) f6).rd, ((oo4.off T4 (.inl rfl) f5).off U5 (.inr rfl) f6).rd⟩
  case key =>
    intro W1 tb ub a1 c1 a2 c2 a3 c3 a4 c4 a5 c5 hC
    refine HNN.out _ _ ?_
    obtain ⟨F1, B1, O1, T1, U1, x1, y1⟩ := hC
    clear HNN F0 B0 O0
    obtain ⟨AC, hAC⟩ : ∃ A, Hid (A = (applyF c o n).1) := ⟨_, Lib.hid rfl⟩
    obtain ⟨AE, hAE⟩ : ∃ A, Hid (A = (applyF c o n).2) := ⟨_, Lib.hid rfl⟩
    obtain ⟨DC, hDC⟩ : ∃ A, Hid (A = (newF kd n).1) := ⟨_, Lib.hid rfl⟩
    obtain ⟨DE, hDE⟩ : ∃ A, Hid (A = (newF kd n).2) := ⟨_, Lib.hid rfl⟩
    obtain ⟨RT, hRT⟩ : ∃ A : ByteArray, Hid (A = ⟨(readF c).1.toArray⟩) := ⟨_, Lib.hid rfl⟩
    obtain ⟨RE, hRE⟩ : ∃ A, Hid (A = (readF c).2) := ⟨_, Lib.hid rfl⟩
    have P1 := cp_lit (apply_ok x1 hB hZ y1 hob n)
    rw [← hAC.out, ← hAE.out] at P1
    have P1 := Lib.hid P1
    obtain ⟨t0, t1, t2, t3, t4, t5, t6, t7, t8, t9⟩ := obj10 T1
    have lT := lt_of_block T1
    obtain ⟨u0, u1, u2, u3, u4, u5, u6, u7, u8, u9, u10, u11, u12, u13⟩ := obj14 U1
    have lU := lt_of_block U1
    go_wp2_with (fail)
    refine P1.out.mono ?_
    rintro e w2 ⟨p1, p2, p3, p4, p5, p6, rfl, oa, f2⟩
    clear P1
    have X2 := f2
    have F2 := F1.trans f2
    have B2 := f2.obj B1 id
    have O2 := f2.obj O1 id
    have T2 := f2.obj T1 id
    have U2 := f2.obj U1 id
    clear t0 t1 t2 t3 t4 t5 t6 t7 t8 t9 u0 u1 u2 u3 u4 u5 u6 u7 u8 u9 u10 u11 u12 u13 lT lU f2
    obtain ⟨qb0, qb1, qb2, qb3, qb4, qb5, qb6, qb7, qb8, qb9⟩ := obj10 B2
    have lB := lt_of_block B2
    obtain ⟨qo0, qo1, qo2, qo3, qo4, qo5, qo6, qo7, qo8, qo9, qo10, qo11, qo12, qo13⟩ := obj14 O2
    have lO := lt_of_block O2
    have g2 := (Frm.refl No w2).al (.cells #[.int .i64 AC.kind, .bool AC.set, .int .i64 AC.st.1, .int .i64 AC.st.2, .string AC.value, .int .i64 AC.num.1, .int .i64 AC.num.2, .slice p1 AC.ents.length p2, .slice p3 AC.elems.length p4, .slice p5 AC.seen.length p6] 30 (0, 0))
    have A2 := heap_alloc_new w2 (.cells #[.int .i64 AC.kind, .bool AC.set, .int .i64 AC.st.1, .int .i64 AC.st.2, .string AC.value, .int .i64 AC.num.1, .int .i64 AC.num.2, .slice p1 AC.ents.length p2, .slice p3 AC.elems.length p4, .slice p5 AC.seen.length p6] 30 (0, 0))
    have P2 := cp_lit (refApply_ok (HR.out.no (F2.trans g2)) hB hZ (HO.out.no (F2.trans g2)) hob n)
    rw [← hAC.out, ← hAE.out] at P2
    have P2 := Lib.hid P2
    go_wp2_with (fail)
    refine P2.out.mono ?_
    rintro e w3 ⟨q1, q2, q3, q4, q5, q6, rfl, ob, f3⟩
    clear P2
    have k3 := g2.trans f3
    have X3 := X2.trans k3
    have F3 := F2.trans k3
    have B3 := k3.obj B2 id
    have O3 := k3.obj O2 id
    have T3 := k3.obj T2 id
    have U3 := k3.obj U2 id
    have A3 := f3.obj A2 id
    have oa3 := oa.no k3
    clear qb0 qb1 qb2 qb3 qb4 qb5 qb6 qb7 qb8 qb9 qo0 qo1 qo2 qo3 qo4 qo5 qo6 qo7 qo8 qo9 qo10 qo11 qo12 qo13 lB lO f3 g2 A2 oa k3
    have g3 := (Frm.refl No w3).al (.cells #[.int .i64 AC.kind, .bool AC.set, .int .i64 AC.st.1, .int .i64 AC.st.2, .string AC.value, .int .i64 AC.num.1, .int .i64 AC.num.2, .slice q1 AC.ents.length q2, .slice q3 AC.elems.length q4, .slice q5 AC.seen.length q6] 30 (0, 0))
    have E3 := heap_alloc_new w3 (.cells #[.int .i64 AC.kind, .bool AC.set, .int .i64 AC.st.1, .int .i64 AC.st.2, .string AC.value, .int .i64 AC.num.1, .int .i64 AC.num.2, .slice q1 AC.ents.length q2, .slice q3 AC.elems.length q4, .slice q5 AC.seen.length q6] 30 (0, 0))
    have P3 := cp_lit (cellNew_ok kd n (w3.alloc (.cells #[.int .i64 AC.kind, .bool AC.set, .int .i64 AC.st.1, .int .i64 AC.st.2, .string AC.value, .int .i64 AC.num.1, .int .i64 AC.num.2, .slice q1 AC.ents.length q2, .slice q3 AC.elems.length q4, .slice q5 AC.seen.length q6] 30 (0, 0))))
    rw [← hDC.out, ← hDE.out] at P3
    have P3 := Lib.hid P3
    go_wp2_with (fail)
    refine P3.out.mono ?_
    rintro e w4 ⟨r1, r2, r3, r4, r5, r6, rfl, od, f4⟩
    clear P3
    have k4 := g3.trans f4
    have X4 := X3.trans k4
    have F4 := F3.trans k4
    have B4 := k4.obj B3 id
    have O4 := k4.obj O3 id
    have T4 := k4.obj T3 id
    have U4 := k4.obj U3 id
    have A4 := k4.obj A3 id
    have E4 := f4.obj E3 id
    have oa4 := oa3.no k4
    have ob4 := ob.no k4
    clear f4 g3 E3 oa3 ob k4
    have g4 := (Frm.refl No w4).al (.cells #[.int .i64 DC.kind, .bool DC.set, .int .i64 DC.st.1, .int .i64 DC.st.2, .string DC.value, .int .i64 DC.num.1, .int .i64 DC.num.2, .slice r1 DC.ents.length r2, .slice r3 DC.elems.length r4, .slice r5 DC.seen.length r6] 30 (0, 0))
    have D4 := heap_alloc_new w4 (.cells #[.int .i64 DC.kind, .bool DC.set, .int .i64 DC.st.1, .int .i64 DC.st.2, .string DC.value, .int .i64 DC.num.1, .int .i64 DC.num.2, .slice r1 DC.ents.length r2, .slice r3 DC.elems.length r4, .slice r5 DC.seen.length r6] 30 (0, 0))
    have P4 := cp_lit (refNew_ok kd n (w4.alloc (.cells #[.int .i64 DC.kind, .bool DC.set, .int .i64 DC.st.1, .int .i64 DC.st.2, .string DC.value, .int .i64 DC.num.1, .int .i64 DC.num.2, .slice r1 DC.ents.length r2, .slice r3 DC.elems.length r4, .slice r5 DC.seen.length r6] 30 (0, 0))))
    rw [← hDC.out, ← hDE.out] at P4
    have P4 := Lib.hid P4
    go_wp2_with (fail)
    refine P4.out.mono ?_
    rintro e w5 ⟨s1, s2, s3, s4, s5, s6, rfl, oh, f5⟩
    clear P4
    have k5 := g4.trans f5
    have X5 := X4.trans k5
    have F5 := F4.trans k5
    have B5 := k5.obj B4 id
    have O5 := k5.obj O4 id
    have T5 := k5.obj T4 id
    have U5 := k5.obj U4 id
    have A5 := k5.obj A4 id
    have E5 := k5.obj E4 id
    have D5 := f5.obj D4 id
    have oa5 := oa4.no k5
    have ob5 := ob4.no k5
    have od5 := od.no k5
    clear f5 g4 D4 oa4 ob4 od k5
    have g5 := (Frm.refl No w5).al (.cells #[.int .i64 DC.kind, .bool DC.set, .int .i64 DC.st.1, .int .i64 DC.st.2, .string DC.value, .int .i64 DC.num.1, .int .i64 DC.num.2, .slice s1 DC.ents.length s2, .slice s3 DC.elems.length s4, .slice s5 DC.seen.length s6] 30 (0, 0))
    have H5 := heap_alloc_new w5 (.cells #[.int .i64 DC.kind, .bool DC.set, .int .i64 DC.st.1, .int .i64 DC.st.2, .string DC.value, .int .i64 DC.num.1, .int .i64 DC.num.2, .slice s1 DC.ents.length s2, .slice s3 DC.elems.length s4, .slice s5 DC.seen.length s6] 30 (0, 0))
    obtain ⟨t0, t1, t2, t3, t4, t5, t6, t7, t8, t9⟩ := obj10 T5
    have lT := lt_of_block T5
    have P5 := read_ok (x1.no (X5.trans g5)) hB hT.told (TAB.out.frm (F5.trans g5))
    rw [← hRT.out, ← hRE.out] at P5
    have P5 := Lib.hid P5
    go_wp2_with (fail)
    refine P5.out.mono ?_
    rintro e w6 ⟨rfl, f6⟩
    clear P5
    have k6 := g5.trans f6
    have X6 := X5.trans k6
    have F6 := F5.trans k6
    have B6 := k6.obj B5 id
    have O6 := k6.obj O5 id
    have T6 := k6.obj T5 id
    have U6 := k6.obj U5 id
    have A6 := k6.obj A5 id
    have E6 := k6.obj E5 id
    have D6 := k6.obj D5 id
    have H6 := f6.obj H5 id
    have oa6 := oa5.no k6
    have ob6 := ob5.no k6
    have od6 := od5.no k6
    have oh6 := oh.no k6
    clear f6 g5 H5 oa5 ob5 od5 oh k6 t0 t1 t2 t3 t4 t5 t6 t7 t8 t9 lT
    obtain ⟨qb0, qb1, qb2, qb3, qb4, qb5, qb6, qb7, qb8, qb9⟩ := obj10 B6
    have lB := lt_of_block B6
    have P6 := refRead_ok (HR.out.no F6) hB hT
    rw [← hRT.out, ← hRE.out] at P6
    have P6 := Lib.hid P6
    go_wp2_with (fail)
    refine P6.out.mono ?_
    rintro e w7 ⟨rfl, f7⟩
    clear P6
    have X7 := X6.trans f7
    have F7 := F6.trans f7
    have B7 := f7.obj B6 id
    have O7 := f7.obj O6 id
    have T7 := f7.obj T6 id
    have U7 := f7.obj U6 id
    have A7 := f7.obj A6 id
    have E7 := f7.obj E6 id
    have D7 := f7.obj D6 id
    have H7 := f7.obj H6 id
    have oa7 := oa6.no f7
    have ob7 := ob6.no f7
    have od7 := od6.no f7
    have oh7 := oh6.no f7
    clear f7 oa6 ob6 od6 oh6 qb0 qb1 qb2 qb3 qb4 qb5 qb6 qb7 qb8 qb9 lB
    obtain ⟨g0, g1, g2, g3, g4, g5, g6, g7, g8, g9⟩ := obj10 A7
    obtain ⟨h0, h1, h2, h3, h4, h5, h6, h7, h8, h9⟩ := obj10 E7
    have lA := lt_of_block A7
    have lE := lt_of_block E7
    go_wp2_with (fail)
    refine (sameCell_ok oa7.rd ob7.rd).mono ?_
    rintro e w8 ⟨rfl, f8⟩
    have X8 := X7.trans f8
    have F8 := F7.trans f8
    have B8 := f8.obj B7 id
    have O8 := f8.obj O7 id
    have T8 := f8.obj T7 id
    have U8 := f8.obj U7 id
    have A8 := f8.obj A7 id
    have D8 := f8.obj D7 id
    have H8 := f8.obj H7 id
    have oa8 := oa7.no f8
    have od8 := od7.no f8
    have oh8 := oh7.no f8
    clear f8 oa7 ob7 od7 oh7 g0 g1 g2 g3 g4 g5 g6 g7 g8 g9 h0 h1 h2 h3 h4 h5 h6 h7 h8 h9 lA lE
    obtain ⟨g0, g1, g2, g3, g4, g5, g6, g7, g8, g9⟩ := obj10 D8
    obtain ⟨h0, h1, h2, h3, h4, h5, h6, h7, h8, h9⟩ := obj10 H8
    have lA := lt_of_block D8
    have lE := lt_of_block H8
    go_wp2_with (go_at_call 18; refine (num_ok _ _).mono ?_; rintro e w' ⟨rfl, rfl⟩)
    refine (sameCell_ok od8.rd oh8.rd).mono ?_
    rintro e w9 ⟨rfl, f9⟩
    have X9 := X8.trans f9
    have F9 := F8.trans f9
    have B9 := f9.obj B8 id
    have O9 := f9.obj O8 id
    have T9 := f9.obj T8 id
    have U9 := f9.obj U8 id
    have A9 := f9.obj A8 id
    have oa9 := oa8.no f9
    clear f9 oa8 od8 oh8 g0 g1 g2 g3 g4 g5 g6 g7 g8 g9 h0 h1 h2 h3 h4 h5 h6 h7 h8 h9 lA lE
    obtain ⟨g0, g1, g2, g3, g4, g5, g6, g7, g8, g9⟩ := obj10 A9
    have lA := lt_of_block A9
    go_wp2_with (go_at_call 18; refine (num_ok _ _).mono ?_; rintro e w' ⟨rfl, rfl⟩)
    refine (spoilCell_ok oa9).mono ?_
    rintro e w10 ⟨rfl, f10⟩
    have z1 := F1.size
    have X10 := X9.then f10 fun k hk h => by omega
    have F10 := F9.then f10 fun k hk h => by omega
    have B10 := X10.obj B1 id
    have O10 := X10.obj O1 id
    have T10 := X10.obj T1 id
    have U10 := X10.obj U1 id
    clear f10 oa9 g0 g1 g2 g3 g4 g5 g6 g7 g8 g9 lA
    obtain ⟨t0, t1, t2, t3, t4, t5, t6, t7, t8, t9⟩ := obj10 T10
    have lT := lt_of_block T10
    obtain ⟨qb0, qb1, qb2, qb3, qb4, qb5, qb6, qb7, qb8, qb9⟩ := obj10 B10
    have lB := lt_of_block B10
    obtain ⟨u0, u1, u2, u3, u4, u5, u6, u7, u8, u9, u10, u11, u12, u13⟩ := obj14 U10
    have lU := lt_of_block U10
    obtain ⟨qo0, qo1, qo2, qo3, qo4, qo5, qo6, qo7, qo8, qo9, qo10, qo11, qo12, qo13⟩ := obj14 O10
    have lO := lt_of_block O10
    have M1 := Lib.hid (fun W (f : Frm No W1 W) => cellMay_ok (x1.no f) hZ n)
    have M2 := Lib.hid (fun W (f : Frm No w W) => refCellMay_ok (HR.out.no f) n)
    obtain ⟨MB, hMB⟩ : ∃ B, Hid (B = cellMay c n) := ⟨_, Lib.hid rfl⟩
    simp only [← hMB.out] at M1 M2
    have S1 := Lib.hid (fun W (f : Frm No W1 W) (g : Frm No w W) => cellStable_ok (x1.no f) (HL.out.no g))
    have S2 := Lib.hid (fun W (g : Frm No w W) => refStable_ok (HR.out.no g) (HL.out.no g))
    obtain ⟨SB, hSB⟩ : ∃ B, Hid (B = vUnder c.seen l) := ⟨_, Lib.hid rfl⟩
    simp only [← hSB.out] at S1 S2
    go_wp2_with (fail)
    refine wp_region_plan [([0, 1, 3, 4, 2], [3]), ([5, 6, 7, 8, 9, 11, 12, 10], [11]), ([13, 14, 15, 16, 17, 18, 19, 20, 21, 22, 23, 24, 25, 26, 27, 28, 29], [])] 129 (by kernel_rfl) (by kernel_rfl) (by simp) ?_
    intro N2 hN2
    simp only [wpSegs, List.map_cons, List.map_nil, List.getD_cons_zero, List.getD_cons_succ]
    go_wp2_with (fail)
    refine (M1.out _ (X10.trans (Frm.drew No _))).mono ?_
    rintro e w11 ⟨rfl, f11⟩
    have d11 := (Frm.drew No w10).trans f11
    have X11 := X10.trans d11
    have F11 := F10.trans d11
    have B11 := d11.obj B10 id
    have O11 := d11.obj O10 id
    have T11 := d11.obj T10 id
    have U11 := d11.obj U10 id
    clear t0 t1 t2 t3 t4 t5 t6 t7 t8 t9 qb0 qb1 qb2 qb3 qb4 qb5 qb6 qb7 qb8 qb9 u0 u1 u2 u3 u4 u5 u6 u7 u8 u9 u10 u11 u12 u13 qo0 qo1 qo2 qo3 qo4 qo5 qo6 qo7 qo8 qo9 qo10 qo11 qo12 qo13 lT lB lU lO
    obtain ⟨t0, t1, t2, t3, t4, t5, t6, t7, t8, t9⟩ := obj10 T11
    have lT := lt_of_block T11
    obtain ⟨qb0, qb1, qb2, qb3, qb4, qb5, qb6, qb7, qb8, qb9⟩ := obj10 B11
    have lB := lt_of_block B11
    obtain ⟨u0, u1, u2, u3, u4, u5, u6, u7, u8, u9, u10, u11, u12, u13⟩ := obj14 U11
    have lU := lt_of_block U11
    obtain ⟨qo0, qo1, qo2, qo3, qo4, qo5, qo6, qo7, qo8, qo9, qo10, qo11, qo12, qo13⟩ := obj14 O11
    have lO := lt_of_block O11
    go_wp2_with (fail)
    first | (refine ⟨(again_cons (again_of rfl rfl ?_) again_nil), ?_⟩) | (refine ⟨again_of rfl rfl ?_, ?_⟩)
    · go_simp
    go_wp2_with (fail)
    refine (M2.out _ F11).mono ?_
    rintro e w12 ⟨rfl, f12⟩
    have X12 := X11.trans f12
    have F12 := F11.trans f12
    have B12 := f12.obj B11 id
    have O12 := f12.obj O11 id
    have T12 := f12.obj T11 id
    have U12 := f12.obj U11 id
    clear t0 t1 t2 t3 t4 t5 t6 t7 t8 t9 qb0 qb1 qb2 qb3 qb4 qb5 qb6 qb7 qb8 qb9 u0 u1 u2 u3 u4 u5 u6 u7 u8 u9 u10 u11 u12 u13 qo0 qo1 qo2 qo3 qo4 qo5 qo6 qo7 qo8 qo9 qo10 qo11 qo12 qo13 lT lB lU lO
    obtain ⟨t0, t1, t2, t3, t4, t5, t6, t7, t8, t9⟩ := obj10 T12
    have lT := lt_of_block T12
    obtain ⟨qb0, qb1, qb2, qb3, qb4, qb5, qb6, qb7, qb8, qb9⟩ := obj10 B12
    have lB := lt_of_block B12
    obtain ⟨u0, u1, u2, u3, u4, u5, u6, u7, u8, u9, u10, u11, u12, u13⟩ := obj14 U12
    have lU := lt_of_block U12
    obtain ⟨qo0, qo1, qo2, qo3, qo4, qo5, qo6, qo7, qo8, qo9, qo10, qo11, qo12, qo13⟩ := obj14 O12
    have lO := lt_of_block O12
    go_wp2_with (fail)
    refine (S1.out _ X12 F12).mono ?_
    rintro e w13 ⟨rfl, f13⟩
    have X13 := X12.trans f13
    have F13 := F12.trans f13
    have B13 := f13.obj B12 id
    have O13 := f13.obj O12 id
    have T13 := f13.obj T12 id
    have U13 := f13.obj U12 id
    clear t0 t1 t2 t3 t4 t5 t6 t7 t8 t9 qb0 qb1 qb2 qb3 qb4 qb5 qb6 qb7 qb8 qb9 u0 u1 u2 u3 u4 u5 u6 u7 u8 u9 u10 u11 u12 u13 qo0 qo1 qo2 qo3 qo4 qo5 qo6 qo7 qo8 qo9 qo10 qo11 qo12 qo13 lT lB lU lO
    obtain ⟨t0, t1, t2, t3, t4, t5, t6, t7, t8, t9⟩ := obj10 T13
    have lT := lt_of_block T13
    obtain ⟨qb0, qb1, qb2, qb3, qb4, qb5, qb6, qb7, qb8, qb9⟩ := obj10 B13
    have lB := lt_of_block B13
    obtain ⟨u0, u1, u2, u3, u4, u5, u6, u7, u8, u9, u10, u11, u12, u13⟩ := obj14 U13
    have lU := lt_of_block U13
    obtain ⟨qo0, qo1, qo2, qo3, qo4, qo5, qo6, qo7, qo8, qo9, qo10, qo11, qo12, qo13⟩ := obj14 O13
    have lO := lt_of_block O13
    go_wp2_with (fail)
    first | (refine ⟨(again_cons (again_of rfl rfl ?_) again_nil), ?_⟩) | (refine ⟨again_of rfl rfl ?_, ?_⟩)
    · go_simp
    go_wp2_with (fail)
    refine (S2.out _ F13).mono ?_
    rintro e w14 ⟨rfl, f14⟩
    have X14 := X13.trans f14
    have F14 := F13.trans f14
    have B14 := f14.obj B13 id
    have O14 := f14.obj O13 id
    have T14 := f14.obj T13 id
    have U14 := f14.obj U13 id
    clear t0 t1 t2 t3 t4 t5 t6 t7 t8 t9 qb0 qb1 qb2 qb3 qb4 qb5 qb6 qb7 qb8 qb9 u0 u1 u2 u3 u4 u5 u6 u7 u8 u9 u10 u11 u12 u13 qo0 qo1 qo2 qo3 qo4 qo5 qo6 qo7 qo8 qo9 qo10 qo11 qo12 qo13 lT lB lU lO
    obtain ⟨t0, t1, t2, t3, t4, t5, t6, t7, t8, t9⟩ := obj10 T14
    have lT := lt_of_block T14
    obtain ⟨qb0, qb1, qb2, qb3, qb4, qb5, qb6, qb7, qb8, qb9⟩ := obj10 B14
    have lB := lt_of_block B14
    obtain ⟨u0, u1, u2, u3, u4, u5, u6, u7, u8, u9, u10, u11, u12, u13⟩ := obj14 U14
    have lU := lt_of_block U14
    obtain ⟨qo0, qo1, qo2, qo3, qo4, qo5, qo6, qo7, qo8, qo9, qo10, qo11, qo12, qo13⟩ := obj14 O14
    have lO := lt_of_block O14
    go_wp2_with (fail)
    refine (sameCell_ok (x1.no X14) (HR.out.no F14)).mono ?_
    rintro e w15 ⟨rfl, f15⟩
    have X15 := X14.trans f15
    have F15 := F14.trans f15
    have B15 := f15.obj B14 id
    have O15 := f15.obj O14 id
    have T15 := f15.obj T14 id
    have U15 := f15.obj U14 id
    clear t0 t1 t2 t3 t4 t5 t6 t7 t8 t9 qb0 qb1 qb2 qb3 qb4 qb5 qb6 qb7 qb8 qb9 u0 u1 u2 u3 u4 u5 u6 u7 u8 u9 u10 u11 u12 u13 qo0 qo1 qo2 qo3 qo4 qo5 qo6 qo7 qo8 qo9 qo10 qo11 qo12 qo13 lT lB lU lO
    obtain ⟨t0, t1, t2, t3, t4, t5, t6, t7, t8, t9⟩ := obj10 T15
    have lT := lt_of_block T15
    obtain ⟨qb0, qb1, qb2, qb3, qb4, qb5, qb6, qb7, qb8, qb9⟩ := obj10 B15
    have lB := lt_of_block B15
    obtain ⟨u0, u1, u2, u3, u4, u5, u6, u7, u8, u9, u10, u11, u12, u13⟩ := obj14 U15
    have lU := lt_of_block U15
    obtain ⟨qo0, qo1, qo2, qo3, qo4, qo5, qo6, qo7, qo8, qo9, qo10, qo11, qo12, qo13⟩ := obj14 O15
    have lO := lt_of_block O15
    go_wp2_with (fail)
    refine (sameOp_ok (y1.no X15) (HO.out.no F15)).mono ?_
    rintro e w16 ⟨rfl, f16⟩
    have F16 := F15.trans f16
    go_wp2_with (fail)
    refine (awake_ok (TAB.out.frm F16)).mono ?_
    rintro e w17 ⟨rfl, f17⟩
    go_wp2_with (fail)
    go_ret
    exact ⟨rfl, F16.trans f17⟩
end Go.Proofs.YtofikfkgiblblaaGreatDoor

/- Merged: Rga1 Rga2. -/
import Derived.ScopeJumps
import Derived.WalkMore
import Derived.Test.YtofikfkgiblblaaGreatDoorQ24
import Derived.Test.YtofikfkgiblblaaGreatDoorQ28
/- Layers 3 and 10: stamps' row; where an element stands. -/
namespace Go.Proofs.YtofikfkgiblblaaGreatDoor
set_option linter.unusedVariables false
set_option linter.unusedSimpArgs false
set_option linter.unusedVariables false
set_option linter.unusedSimpArgs false
open Go.RowKit Go.Lib Go.Tt Go.Shelf
set_option maxRecDepth 100000 in
theorem dotOrder_ok (a b : Dt) (w : World) : Calls Tryz.prog 134 #[.agg #[.int .i64 a.1, .int .i64 a.2], .agg #[.int .i64 b.1, .int .i64 b.2]] w fun e w' => e = .returned (.int .i64 (orI (cmpI a.1 b.1) (cmpI a.2 b.2))) ∧ Frm No w w' := by
  have hc1 := fun W => compare_ok a.1 b.1 W
  have hc2 := fun W => compare_ok a.2 b.2 W
  obtain ⟨u, hu⟩ : ∃ u, Hid (u = cmpI a.1 b.1) := ⟨_, Lib.hid rfl⟩
  obtain ⟨v, hv⟩ : ∃ v, Hid (v = cmpI a.2 b.2) := ⟨_, Lib.hid rfl⟩
  rw [← hu.out] at hc1 ⊢
  rw [← hv.out] at hc2 ⊢
  go_enter Tryz.func134, Tryz.ntmps134
  go_wp2
  refine wp_region_plan [([0, 1, 2, 3, 5, 6, 7, 8, 4], [8, 6]), ([9, 10, 11, 12], [])] 17 (by kernel_rfl) (by kernel_rfl) (by simp) ?_
  intro N hN
  simp only [wpSegs, List.map_cons, List.map_nil, List.getD_cons_zero, List.getD_cons_succ]
  go_wp2_with (fail)
  refine (hc1 _).mono ?_
  rintro e w' ⟨rfl, rfl⟩
  go_wp2_with (fail)
  refine ⟨again_cons (again_of rfl rfl ?_) (again_cons (again_of rfl rfl ?_) again_nil), ?_⟩
  · go_simp
  · go_simp
  go_wp2_with (fail)
  refine (hc2 _).mono ?_
  rintro e w' ⟨rfl, rfl⟩
  go_wp2_with (fail)
  refine (or_ok (x := u) (y := v) (obj_cell (al_at (by simp)) 0) (obj_cell (al_at (by simp)) 1)).mono ?_
  rintro e w1 ⟨rfl, rfl⟩
  go_wp2
  go_ret
  exact ⟨rfl, ((((Frm.refl No w).al _).al _).al _).dr 1⟩
set_option maxRecDepth 100000 in
theorem stLess_ok (a b : Dt) (w : World) : Calls Tryz.prog 105 #[.agg #[.int .i64 a.1, .int .i64 a.2], .agg #[.int .i64 b.1, .int .i64 b.2]] w fun e w' => e = .returned (.bool (dotLess a b)) ∧ Frm No w w' := by
  have hc := Lib.hid (fun W => dotOrder_ok a b W)
  have HL := Lib.hid (cmp_less a b)
  obtain ⟨u, hu⟩ : ∃ u, Hid (u = orI (cmpI a.1 b.1) (cmpI a.2 b.2)) := ⟨_, Lib.hid rfl⟩
  rw [← hu.out] at hc HL
  obtain ⟨B, hB⟩ : ∃ B, Hid (B = dotLess a b) := ⟨_, Lib.hid rfl⟩
  rw [← hB.out] at HL ⊢
  go_enter Tryz.func105, Tryz.ntmps105
  go_wp2_with (fail)
  refine (hc.out _).mono ?_
  rintro e w1 ⟨rfl, f1⟩
  go_wp2_with (fail)
  all_goals go_ret
  all_goals refine ⟨congrArg (fun b => Ending.returned (Value.bool b)) ?_, (((Frm.refl No w).al _).al _).trans f1⟩
  all_goals have h := HL.out
  all_goals first | (rw [Bool.eq_iff_iff, decide_eq_true_iff]; exact h) | (have := h.1 (by omega); exact this.symm) | (cases hb : B with | false => rfl | true => have := h.2 hb; omega)
set_option maxRecDepth 100000 in
theorem find1_ok {w : World} {B : Nat} {d : Dt} (hB : w.heap[B]? = some (.cells #[.int .i64 d.1, .int .i64 d.2] 32 (0, 0))) (x : El) :
    Calls Tryz.prog 141 #[.agg #[.int .i64 x.1, .int .i64 x.2.1, .int .i64 x.2.2.1, .string x.2.2.2.1, .bool x.2.2.2.2], .pointer (some ⟨B, 0, none⟩)] w fun e w' => e = .returned (.bool (decide ((x.1, x.2.1) = d))) ∧ Frm No w w' := by
  have d0 : w.cell? ⟨B, 0, none⟩ = some (.int .i64 d.1) := obj_cell hB 0
  have d1 : w.cell? ⟨B, 1, none⟩ = some (.int .i64 d.2) := obj_cell hB 1
  have hlt := lt_of_block hB
  go_enter Tryz.func141, Tryz.ntmps141
  go_wp2
  all_goals go_ret
  all_goals refine ⟨congrArg (fun b => Ending.returned (Value.bool b)) ?_, (Frm.refl No w).al _⟩
  · exact dec_t (Prod.ext ‹_› ‹_›)
  · exact dec_f fun e => ‹¬ x.2.1 = d.2› (congrArg Prod.snd e)
  · exact dec_f fun e => ‹¬ x.1 = d.1› (congrArg Prod.fst e)
/-- A cell's block. -/
def cellCells (c : CellV) (ve vl vs : Value) : Array Value := #[.int .i64 c.kind, .bool c.set, .int .i64 c.st.1, .int .i64 c.st.2, .string c.value, .int .i64 c.num.1, .int .i64 c.num.2, ve, vl, vs]
/-- Where the element of a dot stands; -1: there is none. -/
def findEl (l : List El) (d : Dt) : Int := idxFL l (fun e => decide ((e.1, e.2.1) = d))
set_option maxRecDepth 100000 in
theorem find_ok {w : World} {b : Nat} {l : List El} {cs : Array Value} {vl : Value} (hB : w.heap[b]? = some (.cells cs 30 (0, 0))) (h8 : cs[8]? = some vl) (hl : RdS w eEl vl l) (d : Dt) :
    Calls Tryz.prog 115 #[.pointer (some ⟨b, 0, none⟩), .agg #[.int .i64 d.1, .int .i64 d.2]] w fun e w' => e = .returned (.int .i64 (findEl l d)) ∧ Frm No w w' := by
  obtain ⟨al, cl, rfl⟩ := hl.sh
  have q8 : w.cell? ⟨b, 8, none⟩ = some (.slice al l.length cl) := by rw [obj_cell hB, h8]
  have nb := lt_of_block hB
  have HL := Lib.hid hl
  clear hB h8 hl
  obtain ⟨u, hu⟩ : ∃ u, Hid (u = findEl l d) := ⟨_, Lib.hid rfl⟩
  rw [← hu.out]
  go_enter Tryz.func115, Tryz.ntmps115
  go_wp2_with (fail)
  have D1 := heap_alloc_new w (.cells #[.int .i64 d.1, .int .i64 d.2] 32 (0, 0))
  have p1 : PredOkL (w.alloc (.cells #[.int .i64 d.1, .int .i64 d.2] 32 (0, 0))) 141 #[.pointer (some ⟨w.heap.size, 0, none⟩)] (fun e => decide ((e.1, e.2.1) = d)) := fun W x f => find1_ok (f.obj D1 id) x
  have hc := indexFuncL_ok (HL.out.no ((Frm.refl No w).al _)) p1 (enters_of Tryz.func141 (by kernel_rfl) rfl)
  refine hc.mono ?_
  rintro e w1 ⟨rfl, f1⟩
  clear hc p1 D1
  have hq : Hid (u = idxFL l (fun e => decide ((e.1, e.2.1) = d))) := hu
  go_wp2_with (fail)
  go_ret
  exact ⟨congrArg (fun b => Ending.returned (Value.int .i64 b)) hq.out.symm, ((Frm.refl No w).al _).trans f1⟩
/-- An element's stamp. -/
def stOf (x : El) : Dt := (x.2.2.1, x.1)
set_option maxRecDepth 100000 in
theorem stamp_ok {w : World} {b off : Nat} {x : El} (h0 : w.cell? ⟨b, off, none⟩ = some (.int .i64 x.1)) (h2 : w.cell? ⟨b, off + 2, none⟩ = some (.int .i64 x.2.2.1)) :
    Calls Tryz.prog 142 #[.pointer (some ⟨b, off, none⟩)] w fun e w' => e = .returned (.agg #[.int .i64 (stOf x).1, .int .i64 (stOf x).2]) ∧ Frm No w w' := by
  have nb := World.block_lt_of_cell? _ _ h0
  simp only at nb
  unfold stOf
  go_enter Tryz.func142, Tryz.ntmps142
  go_wp2
  refine wp_region_plan [([0, 1, 2, 3, 4, 5, 6, 7, 8, 9, 10], [])] 13 (by kernel_rfl) (by kernel_rfl) (by simp) ?_
  intro N hN
  simp only [wpSegs, List.map_cons, List.map_nil, List.getD_cons_zero, List.getD_cons_succ]
  go_wp2_with (fail)
  refine bodyPost_ret (v := .agg #[.int .i64 x.2.2.1, .int .i64 x.1]) (by simp [results, Tryz.results142, go_sem, *]) rfl ?_
  exact ⟨rfl, ((Frm.refl No w).al _).dr 1⟩
end Go.Proofs.YtofikfkgiblblaaGreatDoor

/- Layer 10: rga.place. -/
namespace Go.Proofs.YtofikfkgiblblaaGreatDoor
set_option linter.unusedVariables false
set_option linter.unusedSimpArgs false
open Go.RowKit Go.Lib Go.Tt Go.Shelf
/-- Where one stands, going on behind what is greater. -/
def walkTo (l : List El) (s : Dt) (i : Nat) : Nat := i + (l.drop i).findIdx (fun e => !dotLess s (stOf e))
theorem walkTo_eq {l : List El} {s : Dt} {i k : Nat} (hi : i ≤ k) (hk : k ≤ l.length) (h : ∀ j, (hj : j < l.length) → i ≤ j → j < k → dotLess s (stOf l[j]) = true) (he : ∀ hk : k < l.length, dotLess s (stOf l[k]) = false) : walkTo l s i = k := by
  unfold walkTo
  have : (l.drop i).findIdx (fun e => !dotLess s (stOf e)) = k - i := by
    rcases Nat.lt_or_ge k l.length with h1 | h1
    · refine (List.findIdx_eq (by rw [List.length_drop]; omega)).2 ⟨?_, fun j hj => ?_⟩
      · rw [List.getElem_drop]
        have := he h1
        simp only [show i + (k - i) = k by omega, this, Bool.not_false]
      · rw [List.getElem_drop, h (i + j) (by omega) (by omega) (by omega)]; rfl
    · obtain rfl : k = l.length := by omega
      rw [show l.length - i = (l.drop i).length by rw [List.length_drop]]
      refine List.findIdx_eq_length_of_false fun x hx => ?_
      obtain ⟨j, hj, rfl⟩ := List.getElem_of_mem hx
      rw [List.length_drop] at hj
      rw [List.getElem_drop, h (i + j) (by omega) (by omega) (by omega)]; rfl
  rw [this]
  omega
/-- Where an element comes; none: there is no such to stand behind. -/
def placeOf (l : List El) (s : Dt) (ref : Dt) : Option Nat := if ref = (0, 0) then some (walkTo l s 0) else if findEl l ref < 0 then none else some (walkTo l s (findEl l ref + 1).toNat)
theorem findEl_lt (l : List El) (d : Dt) : -1 ≤ findEl l d ∧ findEl l d < l.length := by
  unfold findEl idxFL
  split <;> omega
theorem jump_ret {l : Nat} {J : Act → World → Prop} {Q : Exit → Act → World → Prop} {a : Act} {w : World} : Exit.jump l J Q .ret a w = Q .ret a w := rfl
def nOf : Value → Nat
  | .int _ i => i.toNat
  | _ => 0
/-- Where one starts. -/
def startOf (l : List El) (ref : Dt) : Option Nat := if ref = (0, 0) then some 0 else if findEl l ref < 0 then none else some (findEl l ref + 1).toNat
/-- On the way one stands at k. -/
def Rel (l : List El) (s : Dt) (ref : Dt) (k : Nat) : Prop := ∃ i, startOf l ref = some i ∧ i ≤ k ∧ k ≤ l.length ∧ ∀ j, (hj : j < l.length) → i ≤ j → j < k → dotLess s (stOf l[j]) = true
theorem Rel.le {l : List El} {s ref : Dt} {k : Nat} (h : Rel l s ref k) : k ≤ l.length := by obtain ⟨i, -, -, h, -⟩ := h; exact h
theorem Rel.step {l : List El} {s ref : Dt} {k : Nat} (h : Rel l s ref k) (hk : k < l.length) (hd : dotLess s (stOf l[k]) = true) : Rel l s ref (k + 1) := by
  obtain ⟨i, h1, h2, h3, h4⟩ := h
  refine ⟨i, h1, by omega, hk, fun j hj h5 h6 => ?_⟩
  rcases Nat.lt_or_ge j k with h7 | h7
  · exact h4 j hj h5 h7
  · obtain rfl : j = k := by omega
    exact hd
theorem Rel.fin {l : List El} {s ref : Dt} {k : Nat} (h : Rel l s ref k) (he : ∀ hk : k < l.length, dotLess s (stOf l[k]) = false) : placeOf l s ref = some k := by
  obtain ⟨i, h1, h2, h3, h4⟩ := h
  unfold startOf at h1
  unfold placeOf
  split at h1
  · next hr =>
    obtain rfl := Option.some.inj h1
    rw [if_pos hr, walkTo_eq h2 h3 h4 he]
  · next hr =>
    split at h1
    · cases h1
    · next hf =>
      rw [if_neg hr, if_neg hf, Option.some.inj h1, walkTo_eq h2 h3 h4 he]
theorem jumps_of {P : Program} {a : Act} {w : World} {Q : Exit → Act → World → Prop} {c rest : Code} (l : Nat) (J : Act → World → Prop) (μ : Act → World → Nat) (hf : findLabel c l = some (Code.skip.seq rest))
    (first : (∀ a w, J a w → rest.wp P (Exit.jump l J Q) a w) → c.wp P (Exit.jump l J Q) a w)
    (pass : ∀ a w, J a w → rest.wp P (Exit.jump l (fun a' w' => J a' w' ∧ μ a' w' < μ a w) Q) a w) : (Code.scope c).wp P Q a w :=
  wp_scope_jumps l J μ hf (first fun a w h => wp_mono (pass a w h) fun e a w he => by cases e <;> first | exact ⟨he.1, he.2.1⟩ | exact he) fun a w h => wp_seq (wp_skip (pass a w h))
set_option maxHeartbeats 4000000 in
set_option maxRecDepth 100000 in
theorem place_ok {w : World} {b g : Nat} {l : List El} {cs : Array Value} {vl : Value} {x : El} (hB : w.heap[b]? = some (.cells cs 30 (0, 0))) (h8 : cs[8]? = some vl) (hl : RdS w eEl vl l)
    (hG : w.heap[g]? = some (.cells (eEl.f x).toArray 59 (0, 0))) (ref : Dt) :
    Calls Tryz.prog 116 #[.pointer (some ⟨b, 0, none⟩), .pointer (some ⟨g, 0, none⟩), .agg #[.int .i64 ref.1, .int .i64 ref.2]] w fun e w' => e = .returned (.tuple #[.int .i64 ((placeOf l (stOf x) ref).getD 0 : Nat), .bool (placeOf l (stOf x) ref).isSome]) ∧ Frm No w w' := by
  obtain ⟨al, cl, rfl⟩ := hl.sh
  have hlm := hl.facts
  have hlm1 : l.length ≤ 9223372036854775807 := by have := hlm.2.1; have := hlm.2.2.1; unfold maxLen at *; omega
  clear hlm
  obtain ⟨ra, hra⟩ : ∃ r : Value, Hid (r = .tuple #[.int .i64 ((placeOf l (stOf x) ref).getD 0 : Nat), .bool (placeOf l (stOf x) ref).isSome]) := ⟨_, Lib.hid rfl⟩
  rw [← hra.out]
  have HB := Lib.hid hB
  have H8 := Lib.hid h8
  have HL := Lib.hid hl
  have HG := Lib.hid hG
  have ng := lt_of_block hG
  have nb := lt_of_block hB
  clear hB h8 hl hG
  go_enter Tryz.func116, Tryz.ntmps116
  go_wp2_with (fail)
  refine jumps_of 0 (fun a wr => ∃ (k : Nat) (u9 u10 u11 u12 u13 u14 u15 u16 u17 u18 u19 u20 u21 u22 u23 u24 u25 u26 u27 u28 u29 u30 u31 u32 u33 u34 u35 u36 u37 u38 u39 : Value), a = { tmps := #[.pointer (some ⟨b, 0, none⟩), .pointer (some ⟨g, 0, none⟩), .agg #[.int .i64 ref.1, .int .i64 ref.2], undef, undef, .pointer (some ⟨w.heap.size, 0, none⟩), .int .i64 0, .bool false, .int .i64 k, u9, u10, u11, u12, u13, u14, u15, u16, u17, u18, u19, u20, u21, u22, u23, u24, u25, u26, u27, u28, u29, u30, u31, u32, u33, u34, u35, u36, u37, u38, u39], defers := [] } ∧ Rel l (stOf x) ref k ∧ Frm No w wr) (fun a _ => l.length - nOf (a.tmps.getD 8 undef)) rfl ?first ?pass
  case pass =>
    rintro a wr ⟨k, u9, u10, u11, u12, u13, u14, u15, u16, u17, u18, u19, u20, u21, u22, u23, u24, u25, u26, u27, u28, u29, u30, u31, u32, u33, u34, u35, u36, u37, u38, u39, rfl, hr, F⟩
    have HR := Lib.hid hr
    have hkl := hr.le
    clear hr
    have q8 : wr.cell? ⟨b, 8, none⟩ = some (.slice al l.length cl) := by rw [obj_cell (F.obj HB.out id), H8.out]
    have nb' : b < wr.heap.size := lt_of_block (F.obj HB.out id)
    by_cases hlt : k < l.length
    · have GB := F.obj HG.out id
      have g0 : wr.cell? ⟨g, 0, none⟩ = some (.int .i64 x.1) := obj_cell GB 0
      have g2 : wr.cell? ⟨g, 0 + 2, none⟩ = some (.int .i64 x.2.2.1) := obj_cell GB 2
      obtain ⟨bl, off, rfl, hb, hc⟩ := (HL.out.no F).at hlt
      have e0 : wr.cell? ⟨bl, off + k * 5, none⟩ = some (.int .i64 l[k].1) := hc 0 _ rfl
      have e2 : wr.cell? ⟨bl, off + k * 5 + 2, none⟩ = some (.int .i64 l[k].2.2.1) := hc 2 _ rfl
      clear hc GB
      obtain ⟨y, hy⟩ : ∃ y, Hid (y = l[k]) := ⟨_, Lib.hid rfl⟩
      rw [← hy.out] at e0 e2
      have HS := Lib.hid (fun W (f : Frm No wr W) => stamp_ok (w := W) (x := x) ((f.cell (p := ⟨g, 0, none⟩) (Nat.lt_of_lt_of_le ng F.size) id).trans g0) ((f.cell (p := ⟨g, 0 + 2, none⟩) (Nat.lt_of_lt_of_le ng F.size) id).trans g2))
      have HE := Lib.hid (fun W (f : Frm No wr W) => stamp_ok (w := W) (x := y) ((f.cell (p := ⟨bl, off + k * 5, none⟩) hb id).trans e0) ((f.cell (p := ⟨bl, off + k * 5 + 2, none⟩) hb id).trans e2))
      have HC := Lib.hid (fun W => stLess_ok (stOf x) (stOf y) W)
      rcases hd : dotLess (stOf x) (stOf y) with _ | _
      all_goals
        have HD := Lib.hid hd
        rw [hd] at HC
        clear hd
        go_wp2_with (fail)
        refine wp_region_plan [([0, 1, 2, 3, 4, 5, 6, 7, 8, 10, 11, 12, 13, 14, 15, 9], [13]), ([16, 17, 18], [])] 40 (by kernel_rfl) (by kernel_rfl) (by simp) ?_
        intro N hN
        simp only [wpSegs, List.map_cons, List.map_nil, List.getD_cons_zero, List.getD_cons_succ]
        go_wp2_with (fail)
        refine (HS.out _ (Frm.drew No wr)).mono ?_
        rintro e w1 ⟨rfl, f1⟩
        have F1 : Frm No wr w1 := (Frm.drew No wr).trans f1
        have q8' : w1.cell? ⟨b, 8, none⟩ = some (.slice (some ⟨bl, off, none⟩) l.length cl) := (F1.cell (p := ⟨b, 8, none⟩) nb' id).trans q8
        have nb1 : b < w1.heap.size := Nat.lt_of_lt_of_le nb' F1.size
        clear f1
        go_wp2_with (fail)
        refine ⟨again_cons (again_of rfl rfl ?_) again_nil, ?_⟩
        · go_simp
        go_wp2_with (fail)
        refine (HE.out _ F1).mono ?_
        rintro e w2 ⟨rfl, f2⟩
        have F2 := F1.trans f2
        clear f2 q8' nb1
        go_wp2_with (fail)
        refine (HC.out _).mono ?_
        rintro e w3 ⟨rfl, f3⟩
        have F3 := F.trans (F2.trans f3)
        clear F1 F2 f3 q8 nb' e0 e2 g0 g2 HS HE HC
        go_wp2_with (fail)
      · have hp := HR.out.fin fun hk => by rw [← hy.out]; exact HD.out
        rw [jump_ret]
        go_ret2
        exact ⟨congrArg Ending.returned (by rw [hra.out, hp]; rfl), F3⟩
      · go_step3
        exact ⟨rfl, ⟨k + 1, _, _, _, _, _, _, _, _, _, _, _, _, _, _, _, _, _, _, _, _, _, _, _, _, _, _, _, _, _, _, _, rfl, HR.out.step hlt (by rw [← hy.out]; exact HD.out), F3⟩, by show l.length - (((k : Int) + 1)).toNat < l.length - (k : Int).toNat; omega⟩
    · obtain rfl : k = l.length := by omega
      have hp := HR.out.fin fun hk => absurd hk (by omega)
      have HP := Lib.hid hp
      clear hp
      go_wp2_with (fail)
      refine wp_region_plan [([0, 1, 2, 3, 4, 5, 6, 7, 8, 10, 11, 12, 13, 14, 15, 9], [13]), ([16, 17, 18], [])] 40 (by kernel_rfl) (by kernel_rfl) (by simp) ?_
      intro N hN
      simp only [wpSegs, List.map_cons, List.map_nil, List.getD_cons_zero, List.getD_cons_succ]
      go_wp2_with (fail)
      refine ⟨again_cons (again_off rfl rfl) again_nil, ?_⟩
      go_wp2_with (fail)
      rw [jump_ret]
      go_ret2
      exact ⟨congrArg Ending.returned (by rw [hra.out, HP.out]; rfl), F.dr 1⟩
  case first =>
    intro pass
    have HPS := Lib.hid pass
    clear pass
    by_cases hr : ref = (0, 0)
    · have r1 : ref.1 = 0 := by rw [hr]
      have r2 : ref.2 = 0 := by rw [hr]
      have hR : Hid (Rel l (stOf x) ref 0) := Lib.hid ⟨0, if_pos hr, Nat.le_refl _, Nat.zero_le _, fun j _ _ h => absurd h (by omega)⟩
      obtain ⟨ra', rb'⟩ := ref
      simp only at r1 r2
      subst r1 r2
      clear hr
      go_wp2_with (fail)
      go_step3
      exact ⟨rfl, ⟨0, _, _, _, _, _, _, _, _, _, _, _, _, _, _, _, _, _, _, _, _, _, _, _, _, _, _, _, _, _, _, _, rfl, hR.out, (Frm.refl No w).al _⟩⟩
    · have hf := Lib.hid (fun W (f : Frm No w W) => find_ok (f.obj HB.out id) H8.out (HL.out.no f) ref)
      have hfl := findEl_lt l ref
      have hS : Hid (startOf l ref = if findEl l ref < 0 then none else some (findEl l ref + 1).toNat) := Lib.hid (if_neg hr)
      have hz : ¬ ref.1 = 0 ∨ ¬ ref.2 = 0 := by
        by_cases h1 : ref.1 = 0
        · exact .inr fun h2 => hr (Prod.ext h1 h2)
        · exact .inl h1
      have hP : Hid (findEl l ref < 0 → placeOf l (stOf x) ref = none) := Lib.hid (fun h => by unfold placeOf; rw [if_neg hr, if_pos h])
      clear hr
      obtain ⟨u, hu⟩ : ∃ u, Hid (u = findEl l ref) := ⟨_, Lib.hid rfl⟩
      rw [← hu.out] at hf hfl hS hP
      rcases hz with hz | hz
      all_goals
        go_wp2_with (fail)
        refine (hf.out _ ((Frm.refl No w).al _)).mono ?_
        rintro e w1 ⟨rfl, f1⟩
        have F1 : Frm No w w1 := ((Frm.refl No w).al _).trans f1
        clear f1 hf
        by_cases hu0 : u < 0
        · have hn := Lib.hid (hP.out hu0)
          obtain rfl : u = -1 := by omega
          go_wp2_with (fail)
          rw [jump_ret]
          go_ret2
          exact ⟨congrArg Ending.returned (by rw [hra.out, hn.out]; rfl), F1⟩
        · obtain ⟨k, hk⟩ : ∃ k : Nat, u = k := ⟨u.toNat, by omega⟩
          subst hk
          have hR : Hid (Rel l (stOf x) ref (k + 1)) := Lib.hid ⟨k + 1, by rw [hS.out, if_neg hu0]; congr 1, Nat.le_refl _, by omega, fun j _ _ h => absurd h (by omega)⟩
          have hk0 : ¬ ((k : Int) + 1 = 0) := by omega
          clear hS hP
          go_wp2_with (fail)
          go_step3
          rename_i K hK
          exact hK _ _ (HPS.out _ _ ⟨k + 1, _, _, _, _, _, _, _, _, _, _, _, _, _, _, _, _, _, _, _, _, _, _, _, _, _, _, _, _, _, _, _, rfl, hR.out, F1⟩)
end Go.Proofs.YtofikfkgiblblaaGreatDoor

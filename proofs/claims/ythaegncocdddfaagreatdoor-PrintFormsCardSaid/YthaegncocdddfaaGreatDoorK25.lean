/- Merged: Sam0. -/
import Derived.Test.YthaegncocdddfaaGreatDoorK24
/- Structs compared; slices.Equal. -/
namespace Go.Proofs.YthaegncocdddfaaGreatDoor
set_option linter.unusedVariables false
set_option linter.unusedSimpArgs false
set_option linter.unusedVariables false
set_option linter.unusedSimpArgs false
open Go.RowKit Go.Lib Go.Tt
theorem strb (a b : ByteArray) : (a.toList == b.toList) = eqB a b := by
  unfold eqB
  rw [ByteArray.toList_eq, ByteArray.toList_eq]
theorem tlp_eq (a b : ByteArray) : (a.toList = b.toList) = (a = b) := by
  rw [ByteArray.toList_eq, ByteArray.toList_eq]
  exact propext ⟨fun h => ByteArray.ext (Array.toList_inj.1 h), fun h => by rw [h]⟩
set_option maxRecDepth 100000 in
theorem neq_Ar (x y : Ar) (W : World) : (binOp .neq 57 (.agg #[.string x.name, .int .i64 x.val.kind, .int .i64 x.val.int, .string x.val.text]) (.agg #[.string y.name, .int .i64 y.val.kind, .int .i64 y.val.int, .string y.val.text])).run Tryz.prog W = .ok (.bool (!decide (x = y))) W := by
  obtain ⟨x1, ⟨x2, x3, x4⟩⟩ := x
  obtain ⟨y1, ⟨y2, y3, y4⟩⟩ := y
  go_simp
  simp only [tlp_eq, Ar.mk.injEq, Vl.mk.injEq, beq_iff_eq]
  repeat' split
  all_goals simp_all
set_option maxHeartbeats 4000000 in
set_option maxRecDepth 100000 in
theorem equal_Ar {w : World} {v u : Value} {xs ys : List Ar} (hx : RdS w eAr v xs) (hy : RdS w eAr u ys) :
    Calls Tryz.prog 78 #[v, u] w fun e w' => e = .returned (.bool (decide (xs = ys))) ∧ Frm No w w' := by
  obtain ⟨a1, c1, rfl⟩ := hx.sh
  obtain ⟨a2, c2, rfl⟩ := hy.sh
  have HX := Lib.hid hx
  have HY := Lib.hid hy
  have hl1 : xs.length ≤ 9223372036854775807 := by
    have h1 := hx.facts
    unfold maxLen at h1
    omega
  have hl2 : ys.length ≤ 9223372036854775807 := by
    have h1 := hy.facts
    unfold maxLen at h1
    omega
  obtain ⟨R, hR⟩ : ∃ R : Ending → World → Prop, R = fun e w' => e = .returned (.bool (decide (xs = ys))) ∧ Frm No w w' := ⟨_, rfl⟩
  rw [← hR]
  have HQ := Lib.hid hR
  clear hR hx hy
  by_cases hl : xs.length = ys.length
  · have hlb : ((xs.length : Int) != (ys.length : Int)) = false := by simp [hl]
    have HLE := Lib.hid hl
    clear hl
    go_enter Tryz.func78, Tryz.ntmps78
    go_wp2_with (fail)
    go_loopg [13] (xs.length + 1) (fun g iv wr => ∃ i : Nat, iv = .int .i64 i ∧ g = xs.length - i + 1 ∧ i ≤ xs.length ∧ xs.take i = ys.take i ∧ Frm No w wr)
    case atStart => exact ⟨0, rfl, rfl, Nat.zero_le _, rfl, Frm.refl _ _⟩
    case round =>
      obtain ⟨i, rfl, hg, hi, ht, f⟩ := hrel
      have HG := Lib.hid hg
      have HT := Lib.hid ht
      clear hg ht
      by_cases hlt : i < xs.length
      · have hlt2 : i < ys.length := by have := HLE.out; omega
        obtain ⟨b1o, h1⟩ : ∃ q, q = HX.out.at hlt := ⟨_, rfl⟩
        clear h1 b1o
        obtain ⟨b1, o1, hao1, hb1, k1⟩ := HX.out.at hlt
        obtain ⟨b2, o2, hao2, hb2, k2⟩ := HY.out.at hlt2
        obtain ⟨x, hx⟩ : ∃ x, x = xs[i] := ⟨_, rfl⟩
        obtain ⟨y, hy⟩ : ∃ y, y = ys[i] := ⟨_, rfl⟩
        rw [← hx] at k1
        rw [← hy] at k2
        subst hao1 hao2
        have p0 := f.cell (p := ⟨b1, o1 + i * 4, none⟩) hb1 id |>.trans (k1 0 _ rfl)
        have q0 := f.cell (p := ⟨b2, o2 + i * 4, none⟩) hb2 id |>.trans (k2 0 _ rfl)
        have p1 := f.cell (p := ⟨b1, o1 + i * 4 + 1, none⟩) hb1 id |>.trans (k1 1 _ rfl)
        have q1 := f.cell (p := ⟨b2, o2 + i * 4 + 1, none⟩) hb2 id |>.trans (k2 1 _ rfl)
        have p2 := f.cell (p := ⟨b1, o1 + i * 4 + 2, none⟩) hb1 id |>.trans (k1 2 _ rfl)
        have q2 := f.cell (p := ⟨b2, o2 + i * 4 + 2, none⟩) hb2 id |>.trans (k2 2 _ rfl)
        have p3 := f.cell (p := ⟨b1, o1 + i * 4 + 3, none⟩) hb1 id |>.trans (k1 3 _ rfl)
        have q3 := f.cell (p := ⟨b2, o2 + i * 4 + 3, none⟩) hb2 id |>.trans (k2 3 _ rfl)
        have hne := fun W => neq_Ar x y W
        have HXI := Lib.hid hx
        have HYI := Lib.hid hy
        have HLT := Lib.hid hlt
        have HLT2 := Lib.hid hlt2
        clear k1 k2 hx hy
        by_cases hxy : x = y
        · have hd : decide (x = y) = true := by simp [hxy]
          have HXY := Lib.hid hxy
          simp only [hd] at hne
          clear hxy hd
          go_wp2_with (fail)
          refine wp_region_plan [([0, 1, 2, 3, 4, 5, 6, 7, 8], [])] 26 (by kernel_rfl) (by kernel_rfl) (by simp) ?_
          intro N hN
          simp only [wpSegs, List.map_cons, List.map_nil, List.getD_cons_zero, List.getD_cons_succ]
          go_wp2_with (fail)
          go_roundg (xs.length - (i + 1) + 1)
          case measure => have := HG.out; have := HLT.out; omega
          case rel => exact ⟨i + 1, by go_num, rfl, HLT.out, take_step HLT.out HLT2.out HT.out (by rw [← HXI.out, ← HYI.out]; exact HXY.out), f.trans (Frm.drew _ _)⟩
        · have hd : decide (x = y) = false := by simp [hxy]
          have HXY := Lib.hid hxy
          simp only [hd] at hne
          clear hxy hd
          go_wp2_with (fail)
          refine wp_region_plan [([0, 1, 2, 3, 4, 5, 6, 7, 8], [])] 26 (by kernel_rfl) (by kernel_rfl) (by simp) ?_
          intro N hN
          simp only [wpSegs, List.map_cons, List.map_nil, List.getD_cons_zero, List.getD_cons_succ]
          go_wp2_with (fail)
          rw [HQ.out]
          have hne2 : xs ≠ ys := ne_at HLT.out HLT2.out HXI HYI HXY.out
          exact ⟨by rw [decide_eq_false hne2]; rfl, f.trans (Frm.drew _ _)⟩
      · obtain rfl : i = xs.length := by omega
        have e : xs = ys := by
          have := HT.out
          rw [List.take_length, List.take_of_length_le (by have := HLE.out; omega)] at this
          exact this
        have HEQ := Lib.hid e
        clear e hlt hi
        go_wp2_with (fail)
        rw [HQ.out]
        exact ⟨by rw [decide_eq_true HEQ.out]; rfl, f⟩
  · have hlb : ((xs.length : Int) != (ys.length : Int)) = true := by simp; omega
    have hne2 : Hid (xs ≠ ys) := Lib.hid fun e => hl (by rw [e])
    clear hl
    go_enter Tryz.func78, Tryz.ntmps78
    go_wp2_with (fail)
    rw [HQ.out]
    exact ⟨by rw [decide_eq_false hne2.out]; rfl, Frm.refl _ _⟩
set_option maxRecDepth 100000 in
theorem neq_Fi (x y : Fi) (W : World) : (binOp .neq 60 (.agg #[.bool x.skip, .int .i64 x.val.kind, .int .i64 x.val.int, .string x.val.text]) (.agg #[.bool y.skip, .int .i64 y.val.kind, .int .i64 y.val.int, .string y.val.text])).run Tryz.prog W = .ok (.bool (!decide (x = y))) W := by
  obtain ⟨x1, ⟨x2, x3, x4⟩⟩ := x
  obtain ⟨y1, ⟨y2, y3, y4⟩⟩ := y
  go_simp
  simp only [tlp_eq, Fi.mk.injEq, Vl.mk.injEq, beq_iff_eq]
  repeat' split
  all_goals simp_all
set_option maxHeartbeats 4000000 in
set_option maxRecDepth 100000 in
theorem equal_Fi {w : World} {v u : Value} {xs ys : List Fi} (hx : RdS w eFi v xs) (hy : RdS w eFi u ys) :
    Calls Tryz.prog 79 #[v, u] w fun e w' => e = .returned (.bool (decide (xs = ys))) ∧ Frm No w w' := by
  obtain ⟨a1, c1, rfl⟩ := hx.sh
  obtain ⟨a2, c2, rfl⟩ := hy.sh
  have HX := Lib.hid hx
  have HY := Lib.hid hy
  have hl1 : xs.length ≤ 9223372036854775807 := by
    have h1 := hx.facts
    unfold maxLen at h1
    omega
  have hl2 : ys.length ≤ 9223372036854775807 := by
    have h1 := hy.facts
    unfold maxLen at h1
    omega
  obtain ⟨R, hR⟩ : ∃ R : Ending → World → Prop, R = fun e w' => e = .returned (.bool (decide (xs = ys))) ∧ Frm No w w' := ⟨_, rfl⟩
  rw [← hR]
  have HQ := Lib.hid hR
  clear hR hx hy
  by_cases hl : xs.length = ys.length
  · have hlb : ((xs.length : Int) != (ys.length : Int)) = false := by simp [hl]
    have HLE := Lib.hid hl
    clear hl
    go_enter Tryz.func79, Tryz.ntmps79
    go_wp2_with (fail)
    go_loopg [13] (xs.length + 1) (fun g iv wr => ∃ i : Nat, iv = .int .i64 i ∧ g = xs.length - i + 1 ∧ i ≤ xs.length ∧ xs.take i = ys.take i ∧ Frm No w wr)
    case atStart => exact ⟨0, rfl, rfl, Nat.zero_le _, rfl, Frm.refl _ _⟩
    case round =>
      obtain ⟨i, rfl, hg, hi, ht, f⟩ := hrel
      have HG := Lib.hid hg
      have HT := Lib.hid ht
      clear hg ht
      by_cases hlt : i < xs.length
      · have hlt2 : i < ys.length := by have := HLE.out; omega
        obtain ⟨b1o, h1⟩ : ∃ q, q = HX.out.at hlt := ⟨_, rfl⟩
        clear h1 b1o
        obtain ⟨b1, o1, hao1, hb1, k1⟩ := HX.out.at hlt
        obtain ⟨b2, o2, hao2, hb2, k2⟩ := HY.out.at hlt2
        obtain ⟨x, hx⟩ : ∃ x, x = xs[i] := ⟨_, rfl⟩
        obtain ⟨y, hy⟩ : ∃ y, y = ys[i] := ⟨_, rfl⟩
        rw [← hx] at k1
        rw [← hy] at k2
        subst hao1 hao2
        have p0 := f.cell (p := ⟨b1, o1 + i * 4, none⟩) hb1 id |>.trans (k1 0 _ rfl)
        have q0 := f.cell (p := ⟨b2, o2 + i * 4, none⟩) hb2 id |>.trans (k2 0 _ rfl)
        have p1 := f.cell (p := ⟨b1, o1 + i * 4 + 1, none⟩) hb1 id |>.trans (k1 1 _ rfl)
        have q1 := f.cell (p := ⟨b2, o2 + i * 4 + 1, none⟩) hb2 id |>.trans (k2 1 _ rfl)
        have p2 := f.cell (p := ⟨b1, o1 + i * 4 + 2, none⟩) hb1 id |>.trans (k1 2 _ rfl)
        have q2 := f.cell (p := ⟨b2, o2 + i * 4 + 2, none⟩) hb2 id |>.trans (k2 2 _ rfl)
        have p3 := f.cell (p := ⟨b1, o1 + i * 4 + 3, none⟩) hb1 id |>.trans (k1 3 _ rfl)
        have q3 := f.cell (p := ⟨b2, o2 + i * 4 + 3, none⟩) hb2 id |>.trans (k2 3 _ rfl)
        have hne := fun W => neq_Fi x y W
        have HXI := Lib.hid hx
        have HYI := Lib.hid hy
        have HLT := Lib.hid hlt
        have HLT2 := Lib.hid hlt2
        clear k1 k2 hx hy
        by_cases hxy : x = y
        · have hd : decide (x = y) = true := by simp [hxy]
          have HXY := Lib.hid hxy
          simp only [hd] at hne
          clear hxy hd
          go_wp2_with (fail)
          refine wp_region_plan [([0, 1, 2, 3, 4, 5, 6, 7, 8], [])] 26 (by kernel_rfl) (by kernel_rfl) (by simp) ?_
          intro N hN
          simp only [wpSegs, List.map_cons, List.map_nil, List.getD_cons_zero, List.getD_cons_succ]
          go_wp2_with (fail)
          go_roundg (xs.length - (i + 1) + 1)
          case measure => have := HG.out; have := HLT.out; omega
          case rel => exact ⟨i + 1, by go_num, rfl, HLT.out, take_step HLT.out HLT2.out HT.out (by rw [← HXI.out, ← HYI.out]; exact HXY.out), f.trans (Frm.drew _ _)⟩
        · have hd : decide (x = y) = false := by simp [hxy]
          have HXY := Lib.hid hxy
          simp only [hd] at hne
          clear hxy hd
          go_wp2_with (fail)
          refine wp_region_plan [([0, 1, 2, 3, 4, 5, 6, 7, 8], [])] 26 (by kernel_rfl) (by kernel_rfl) (by simp) ?_
          intro N hN
          simp only [wpSegs, List.map_cons, List.map_nil, List.getD_cons_zero, List.getD_cons_succ]
          go_wp2_with (fail)
          rw [HQ.out]
          have hne2 : xs ≠ ys := ne_at HLT.out HLT2.out HXI HYI HXY.out
          exact ⟨by rw [decide_eq_false hne2]; rfl, f.trans (Frm.drew _ _)⟩
      · obtain rfl : i = xs.length := by omega
        have e : xs = ys := by
          have := HT.out
          rw [List.take_length, List.take_of_length_le (by have := HLE.out; omega)] at this
          exact this
        have HEQ := Lib.hid e
        clear e hlt hi
        go_wp2_with (fail)
        rw [HQ.out]
        exact ⟨by rw [decide_eq_true HEQ.out]; rfl, f⟩
  · have hlb : ((xs.length : Int) != (ys.length : Int)) = true := by simp; omega
    have hne2 : Hid (xs ≠ ys) := Lib.hid fun e => hl (by rw [e])
    clear hl
    go_enter Tryz.func79, Tryz.ntmps79
    go_wp2_with (fail)
    rw [HQ.out]
    exact ⟨by rw [decide_eq_false hne2.out]; rfl, Frm.refl _ _⟩
set_option maxRecDepth 100000 in
theorem neq_Dc (x y : Dc) (W : World) : (binOp .neq 62 (.agg #[.string x.name, .int .i64 x.kind]) (.agg #[.string y.name, .int .i64 y.kind])).run Tryz.prog W = .ok (.bool (!decide (x = y))) W := by
  obtain ⟨x1, x2⟩ := x
  obtain ⟨y1, y2⟩ := y
  go_simp
  simp only [tlp_eq, Dc.mk.injEq, beq_iff_eq]
  repeat' split
  all_goals simp_all
set_option maxHeartbeats 4000000 in
set_option maxRecDepth 100000 in
theorem equal_Dc {w : World} {v u : Value} {xs ys : List Dc} (hx : RdS w eDc v xs) (hy : RdS w eDc u ys) :
    Calls Tryz.prog 62 #[v, u] w fun e w' => e = .returned (.bool (decide (xs = ys))) ∧ Frm No w w' := by
  obtain ⟨a1, c1, rfl⟩ := hx.sh
  obtain ⟨a2, c2, rfl⟩ := hy.sh
  have HX := Lib.hid hx
  have HY := Lib.hid hy
  have hl1 : xs.length ≤ 9223372036854775807 := by
    have h1 := hx.facts
    unfold maxLen at h1
    omega
  have hl2 : ys.length ≤ 9223372036854775807 := by
    have h1 := hy.facts
    unfold maxLen at h1
    omega
  obtain ⟨R, hR⟩ : ∃ R : Ending → World → Prop, R = fun e w' => e = .returned (.bool (decide (xs = ys))) ∧ Frm No w w' := ⟨_, rfl⟩
  rw [← hR]
  have HQ := Lib.hid hR
  clear hR hx hy
  by_cases hl : xs.length = ys.length
  · have hlb : ((xs.length : Int) != (ys.length : Int)) = false := by simp [hl]
    have HLE := Lib.hid hl
    clear hl
    go_enter Tryz.func62, Tryz.ntmps62
    go_wp2_with (fail)
    go_loopg [13] (xs.length + 1) (fun g iv wr => ∃ i : Nat, iv = .int .i64 i ∧ g = xs.length - i + 1 ∧ i ≤ xs.length ∧ xs.take i = ys.take i ∧ Frm No w wr)
    case atStart => exact ⟨0, rfl, rfl, Nat.zero_le _, rfl, Frm.refl _ _⟩
    case round =>
      obtain ⟨i, rfl, hg, hi, ht, f⟩ := hrel
      have HG := Lib.hid hg
      have HT := Lib.hid ht
      clear hg ht
      by_cases hlt : i < xs.length
      · have hlt2 : i < ys.length := by have := HLE.out; omega
        obtain ⟨b1o, h1⟩ : ∃ q, q = HX.out.at hlt := ⟨_, rfl⟩
        clear h1 b1o
        obtain ⟨b1, o1, hao1, hb1, k1⟩ := HX.out.at hlt
        obtain ⟨b2, o2, hao2, hb2, k2⟩ := HY.out.at hlt2
        obtain ⟨x, hx⟩ : ∃ x, x = xs[i] := ⟨_, rfl⟩
        obtain ⟨y, hy⟩ : ∃ y, y = ys[i] := ⟨_, rfl⟩
        rw [← hx] at k1
        rw [← hy] at k2
        subst hao1 hao2
        have p0 := f.cell (p := ⟨b1, o1 + i * 2, none⟩) hb1 id |>.trans (k1 0 _ rfl)
        have q0 := f.cell (p := ⟨b2, o2 + i * 2, none⟩) hb2 id |>.trans (k2 0 _ rfl)
        have p1 := f.cell (p := ⟨b1, o1 + i * 2 + 1, none⟩) hb1 id |>.trans (k1 1 _ rfl)
        have q1 := f.cell (p := ⟨b2, o2 + i * 2 + 1, none⟩) hb2 id |>.trans (k2 1 _ rfl)
        have hne := fun W => neq_Dc x y W
        have HXI := Lib.hid hx
        have HYI := Lib.hid hy
        have HLT := Lib.hid hlt
        have HLT2 := Lib.hid hlt2
        clear k1 k2 hx hy
        by_cases hxy : x = y
        · have hd : decide (x = y) = true := by simp [hxy]
          have HXY := Lib.hid hxy
          simp only [hd] at hne
          clear hxy hd
          go_wp2_with (fail)
          refine wp_region_plan [([0, 1, 2, 3, 4, 5, 6, 7, 8], [])] 26 (by kernel_rfl) (by kernel_rfl) (by simp) ?_
          intro N hN
          simp only [wpSegs, List.map_cons, List.map_nil, List.getD_cons_zero, List.getD_cons_succ]
          go_wp2_with (fail)
          go_roundg (xs.length - (i + 1) + 1)
          case measure => have := HG.out; have := HLT.out; omega
          case rel => exact ⟨i + 1, by go_num, rfl, HLT.out, take_step HLT.out HLT2.out HT.out (by rw [← HXI.out, ← HYI.out]; exact HXY.out), f.trans (Frm.drew _ _)⟩
        · have hd : decide (x = y) = false := by simp [hxy]
          have HXY := Lib.hid hxy
          simp only [hd] at hne
          clear hxy hd
          go_wp2_with (fail)
          refine wp_region_plan [([0, 1, 2, 3, 4, 5, 6, 7, 8], [])] 26 (by kernel_rfl) (by kernel_rfl) (by simp) ?_
          intro N hN
          simp only [wpSegs, List.map_cons, List.map_nil, List.getD_cons_zero, List.getD_cons_succ]
          go_wp2_with (fail)
          rw [HQ.out]
          have hne2 : xs ≠ ys := ne_at HLT.out HLT2.out HXI HYI HXY.out
          exact ⟨by rw [decide_eq_false hne2]; rfl, f.trans (Frm.drew _ _)⟩
      · obtain rfl : i = xs.length := by omega
        have e : xs = ys := by
          have := HT.out
          rw [List.take_length, List.take_of_length_le (by have := HLE.out; omega)] at this
          exact this
        have HEQ := Lib.hid e
        clear e hlt hi
        go_wp2_with (fail)
        rw [HQ.out]
        exact ⟨by rw [decide_eq_true HEQ.out]; rfl, f⟩
  · have hlb : ((xs.length : Int) != (ys.length : Int)) = true := by simp; omega
    have hne2 : Hid (xs ≠ ys) := Lib.hid fun e => hl (by rw [e])
    clear hl
    go_enter Tryz.func62, Tryz.ntmps62
    go_wp2_with (fail)
    rw [HQ.out]
    exact ⟨by rw [decide_eq_false hne2.out]; rfl, Frm.refl _ _⟩
end Go.Proofs.YthaegncocdddfaaGreatDoor

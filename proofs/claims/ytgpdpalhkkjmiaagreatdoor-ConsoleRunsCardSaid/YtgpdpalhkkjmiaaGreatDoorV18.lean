/- Merged: RefL Flo Cnt. -/
import Derived.Laws.ComplexArith
import Derived.WalkLawsBesides
import Derived.Test.YtgpdpalhkkjmiaaGreatDoorV14
import Derived.Test.YtgpdpalhkkjmiaaGreatDoorV17
/- The reference's lists: place, live, ListValues. -/
namespace Go.Proofs.YtgpdpalhkkjmiaaGreatDoor
set_option linter.unusedVariables false
set_option linter.unusedSimpArgs false
set_option linter.unusedVariables false
set_option linter.unusedSimpArgs false
open Go.RowKit Go.Lib Go.Tt Go.Shelf
theorem findEl_at {l : List El} {d : Dt} {i : Nat} (h : i < l.length) (hd : ((l[i]).1, (l[i]).2.1) = d) (hb : ∀ j (hj : j < l.length), j < i → ((l[j]).1, (l[j]).2.1) ≠ d) : findEl l d = i := by
  unfold findEl idxFL
  have e : l.findIdx (fun e => decide ((e.1, e.2.1) = d)) = i := by
    refine (List.findIdx_eq h).2 ⟨decide_eq_true hd, fun j hj => ?_⟩
    exact decide_eq_false (hb j (by omega) hj)
  rw [e, if_pos h]
theorem findEl_no {l : List El} {d : Dt} (hb : ∀ j (hj : j < l.length), ((l[j]).1, (l[j]).2.1) ≠ d) : findEl l d = -1 := by
  unfold findEl idxFL
  have e : l.findIdx (fun e => decide ((e.1, e.2.1) = d)) = l.length := List.findIdx_eq_length.2 fun x hx => by
    obtain ⟨j, hj, rfl⟩ := List.getElem_of_mem hx
    exact decide_eq_false (hb j hj)
  rw [e, if_neg (by omega)]
set_option maxHeartbeats 1000000 in
set_option maxRecDepth 100000 in
theorem refPlace_ok {w : World} {c : CellV} {ve vl vs : Value} (h : CellR w c ve vl vs) (d : Dt) :
    Calls Tryz.prog 58 #[cval c ve vl vs, .agg #[.int .i64 d.1, .int .i64 d.2]] w fun e w' => e = .returned (.int .i64 (findEl c.elems d)) ∧ Frm No w w' := by
  obtain ⟨he, hl, hs⟩ := h
  obtain ⟨ae, ce, rfl⟩ := he.sh
  obtain ⟨al, cl, rfl⟩ := hl.sh
  obtain ⟨at_, cs, rfl⟩ := hs.sh
  clear he hs
  obtain ⟨hn, hc1, hc2, -⟩ := hl.facts
  unfold maxLen at hc2
  clear hn
  obtain ⟨R, hR⟩ : ∃ R, Hid (R = findEl c.elems d) := ⟨_, Lib.hid rfl⟩
  rw [← hR.out]
  unfold cval
  obtain ⟨d1, d2⟩ := d
  have HE := Lib.hid hl
  clear hl
  go_enter Tryz.func58, Tryz.ntmps58
  go_wp2_with (fail)
  go_loopg [5] (c.elems.length + 1) (fun g iv wr => ∃ i : Nat, iv = .int .i64 i ∧ i ≤ c.elems.length ∧ g = c.elems.length - i + 1 ∧ Frm No w wr ∧
    wr.heap[w.heap.size]? = some (.cells #[.int .i64 c.kind, .bool c.set, .int .i64 c.st.1, .int .i64 c.st.2, .string c.value, .int .i64 c.num.1, .int .i64 c.num.2, .slice ae c.ents.length ce, .slice al c.elems.length cl, .slice at_ c.seen.length cs] 75 (0, 0)) ∧
    wr.heap[w.heap.size + 1]? = some (.cells #[.int .i64 d1, .int .i64 d2] 83 (0, 0)) ∧
    ∀ j (hj : j < c.elems.length), j < i → ((c.elems[j]).1, (c.elems[j]).2.1) ≠ (d1, d2))
  case atStart => exact ⟨0, rfl, Nat.zero_le _, by omega, ((Frm.refl No w).al _).al _, al_old (heap_alloc_new w _), al_at (by simp), fun j _ h => absurd h (Nat.not_lt_zero _)⟩
  case round =>
    obtain ⟨i, rfl, hi, hg, F, B, C, hp⟩ := hrel
    have hG := Lib.hid hg
    have HP := Lib.hid hp
    clear hg hp
    have n1 := lt_of_block B
    have n2 := lt_of_block C
    have q8 : wr.cell? ⟨w.heap.size, 8, none⟩ = some (.slice al c.elems.length cl) := obj_cell B 8
    have r0 : wr.cell? ⟨w.heap.size + 1, 0, none⟩ = some (.int .i64 d1) := obj_cell C 0
    have r1 : wr.cell? ⟨w.heap.size + 1, 1, none⟩ = some (.int .i64 d2) := obj_cell C 1
    by_cases hlt : i < c.elems.length
    · obtain ⟨b, off, rfl, hbl, hc⟩ := (HE.out.no F).at hlt
      have e0 : wr.cell? ⟨b, off + i * 5, none⟩ = some (.int .i64 c.elems[i].1) := hc 0 _ rfl
      have e1 : wr.cell? ⟨b, off + i * 5 + 1, none⟩ = some (.int .i64 c.elems[i].2.1) := hc 1 _ rfl
      clear hc
      obtain ⟨x, hx⟩ : ∃ x, Hid (x = c.elems[i]) := ⟨_, Lib.hid rfl⟩
      rw [← hx.out] at e0 e1
      go_wp2
      refine wp_region_plan [([0, 1, 2, 3, 4, 5, 6, 7], [])] 22 (by kernel_rfl) (by kernel_rfl) (by simp) ?_
      intro N hN
      simp only [wpSegs, List.map_cons, List.map_nil, List.getD_cons_zero, List.getD_cons_succ]
      have F2 := F.trans (Frm.drew No wr)
      have B2 := (Frm.drew No wr).obj B id
      have C2 := (Frm.drew No wr).obj C id
      by_cases h1 : x.1 = d1
      · by_cases h2 : x.2.1 = d2
        · have hE : Hid (R = (i : Int)) := Lib.hid (by rw [hR.out]; exact findEl_at hlt (by rw [← hx.out, h1, h2]) HP.out)
          go_wp2
          go_ret
          exact ⟨congrArg (fun b => Ending.returned (Value.int .i64 b)) hE.out.symm, F2⟩
        · have hne : Hid (((c.elems[i]).1, (c.elems[i]).2.1) ≠ (d1, d2)) := Lib.hid (by rw [← hx.out]; intro e; exact h2 (Prod.ext_iff.1 e).2)
          go_wp2
          go_roundg (c.elems.length - (i + 1) + 1)
          case measure => have := hG.out; omega
          case rel => exact ⟨i + 1, by go_num, by omega, rfl, F2, B2, C2, fun j hj hji => by
            rcases Nat.lt_or_ge j i with h | h
            · exact HP.out j hj h
            · obtain rfl : j = i := by omega
              exact hne.out⟩
      · have hne : Hid (((c.elems[i]).1, (c.elems[i]).2.1) ≠ (d1, d2)) := Lib.hid (by rw [← hx.out]; intro e; exact h1 (Prod.ext_iff.1 e).1)
        go_wp2
        go_roundg (c.elems.length - (i + 1) + 1)
        case measure => have := hG.out; omega
        case rel => exact ⟨i + 1, by go_num, by omega, rfl, F2, B2, C2, fun j hj hji => by
            rcases Nat.lt_or_ge j i with h | h
            · exact HP.out j hj h
            · obtain rfl : j = i := by omega
              exact hne.out⟩
    · have hii : ¬ ((i : Int) < (c.elems.length : Int)) := by omega
      have hE : Hid (R = -1) := Lib.hid (by rw [hR.out]; exact findEl_no fun j hj => HP.out j hj (by omega))
      go_wp2
      go_ret
      exact ⟨congrArg (fun b => Ending.returned (Value.int .i64 b)) hE.out.symm, F⟩
def liveL (l : List El) : List El := l.filter fun x => !x.2.2.2.2
theorem live_step {l : List El} {i : Nat} {x : El} (h : i < l.length) (hx : Hid (x = l[i])) : liveL (l.take (i + 1)) = liveL (l.take i) ++ if x.2.2.2.2 = true then [] else [x] := by
  unfold liveL
  rw [List.take_succ_eq_append_getElem h, ← hx.out, List.filter_append]
  by_cases hv : x.2.2.2.2 = true <;> simp [hv]
theorem live_len (l : List El) : (liveL l).length ≤ l.length := List.length_filter_le _ _
set_option maxHeartbeats 1000000 in
set_option maxRecDepth 100000 in
theorem refLive_ok {w : World} {c : CellV} {ve vl vs : Value} (h : CellR w c ve vl vs) (hb : CellB c) :
    Calls Tryz.prog 57 #[cval c ve vl vs] w fun e w' => ∃ a n m, e = .returned (.slice a n m) ∧ Ow w' (Nw No w w') 91 eEl (.slice a n m) (liveL c.elems) ∧ Frm No w w' := by
  obtain ⟨he, hl, hs⟩ := h
  obtain ⟨ae, ce, rfl⟩ := he.sh
  obtain ⟨al, cl, rfl⟩ := hl.sh
  obtain ⟨at_, cs, rfl⟩ := hs.sh
  clear he hs
  obtain ⟨hn, hc1, hc2, -⟩ := hl.facts
  unfold maxLen at hc2
  have hb1 : c.elems.length * 48 ≤ 140737488351232 := hb.l
  unfold cval
  have HE := Lib.hid hl
  clear hl hn hb
  go_enter Tryz.func57, Tryz.ntmps57
  go_wp2_with (fail)
  go_loopg [3, 4] (c.elems.length + 1) (fun g ov iv wr => ∃ (i : Nat) (ao : Option Addr) (no co : Nat), iv = .int .i64 i ∧ ov = .slice ao no co ∧ i ≤ c.elems.length ∧ g = c.elems.length - i + 1 ∧ Frm No w wr ∧
    wr.heap[w.heap.size]? = some (.cells #[.int .i64 c.kind, .bool c.set, .int .i64 c.st.1, .int .i64 c.st.2, .string c.value, .int .i64 c.num.1, .int .i64 c.num.2, .slice ae c.ents.length ce, .slice al c.elems.length cl, .slice at_ c.seen.length cs] 75 (0, 0)) ∧
    Ow wr (fun k => w.heap.size + 1 ≤ k) 91 eEl (.slice ao no co) (liveL (c.elems.take i)))
  case atStart => exact ⟨0, none, 0, 0, rfl, rfl, Nat.zero_le _, by omega, (Frm.refl No w).al _, heap_alloc_new w _, Ow.nil _ _ _ _ _⟩
  case round =>
    obtain ⟨i, ao, no, co, rfl, rfl, hi, hg, F, B, O⟩ := hrel
    have hG := Lib.hid hg
    clear hg
    have n1 := lt_of_block B
    have q8 : wr.cell? ⟨w.heap.size, 8, none⟩ = some (.slice al c.elems.length cl) := obj_cell B 8
    by_cases hlt : i < c.elems.length
    · obtain ⟨b, off, rfl, hbl, hc⟩ := (HE.out.no F).at hlt
      have e0 : wr.cell? ⟨b, off + i * 5, none⟩ = some (.int .i64 c.elems[i].1) := hc 0 _ rfl
      have e1 : wr.cell? ⟨b, off + i * 5 + 1, none⟩ = some (.int .i64 c.elems[i].2.1) := hc 1 _ rfl
      have e2 : wr.cell? ⟨b, off + i * 5 + 2, none⟩ = some (.int .i64 c.elems[i].2.2.1) := hc 2 _ rfl
      have e3 : wr.cell? ⟨b, off + i * 5 + 3, none⟩ = some (.string c.elems[i].2.2.2.1) := hc 3 _ rfl
      have e4 : wr.cell? ⟨b, off + i * 5 + 4, none⟩ = some (.bool c.elems[i].2.2.2.2) := hc 4 _ rfl
      clear hc
      obtain ⟨x, hx⟩ : ∃ x, Hid (x = c.elems[i]) := ⟨_, Lib.hid rfl⟩
      rw [← hx.out] at e0 e1 e2 e3 e4
      have HN := Lib.hid O.cap.1
      have hle : (liveL (c.elems.take i)).length ≤ i := Nat.le_trans (live_len _) (by rw [List.length_take]; omega)
      have hle' : no ≤ i := by rw [HN.out]; exact hle
      have hst := live_step hlt hx
      obtain ⟨x1, x2, x3, x4, x5⟩ := x
      rcases x5 with _ | _
      · rw [if_neg (by show ¬ (false = true); decide)] at hst
        have HST := Lib.hid hst
        clear hst
        go_wp2_with (at_builtin; refine wpList_ap _ rfl (.tmp 19) (.tmp 25) 73 73 rfl 91 _ 48 Tryz.underlying73 i_el rfl (O.al _) ((RdS.litg _ eEl (x1, x2, x3, x4, false) _ (g := wr.heap.size) rfl).src Tryz.underlying73) rfl rfl rfl ?c1 ?c2 ?_)
        case c1 => rw [← HN.out]; unfold maxLen; omega
        case c2 => rw [← HN.out]; omega
        intro a' c' w2 o2 f2
        have F2 : Frm No w w2 := (F.al _).then f2 fun k hk hh => by omega
        have B2 := f2.obj (al_old B) (by omega)
        go_wp2_with (fail)
        go_roundg (c.elems.length - (i + 1) + 1)
        case measure => have := hG.out; omega
        case rel => exact ⟨i + 1, a', _, c', by go_num, rfl, by omega, rfl, F2, B2, by rw [HST.out]; exact o2.mono fun k _ hh => by rcases hh with hh | hh; exact hh; have := hh.1; have := F.size; simp at *; omega⟩
      · rw [if_pos rfl, List.append_nil] at hst
        have HST := Lib.hid hst
        clear hst
        go_wp2_with (fail)
        go_roundg (c.elems.length - (i + 1) + 1)
        case measure => have := hG.out; omega
        case rel => exact ⟨i + 1, ao, no, co, by go_num, rfl, by omega, rfl, F, B, by rw [HST.out]; exact O⟩
    · have hii : ¬ ((i : Int) < (c.elems.length : Int)) := by omega
      have ht : c.elems.take i = c.elems := List.take_of_length_le (by omega)
      rw [ht] at O
      go_wp2_with (fail)
      go_ret
      exact ⟨ao, no, co, rfl, O.fin (by omega), F⟩
set_option maxHeartbeats 1000000 in
set_option maxRecDepth 100000 in
theorem refListValues_ok {w : World} {c : CellV} {ve vl vs : Value} (h : CellR w c ve vl vs) (hb : CellB c) (hk : c.kind = 3) :
    Calls Tryz.prog 41 #[cval c ve vl vs] w (VP (valsL c.elems) 0 w) := by
  have HR := Lib.hid h
  obtain ⟨he, hl, hs⟩ := h
  obtain ⟨ae, ce, rfl⟩ := he.sh
  obtain ⟨al, cl, rfl⟩ := hl.sh
  obtain ⟨at_, cs, rfl⟩ := hs.sh
  have hbl := hb.l
  have hcv : cval c (.slice ae c.ents.length ce) (.slice al c.elems.length cl) (.slice at_ c.seen.length cs) = .agg #[.int .i64 3, .bool c.set, .int .i64 c.st.1, .int .i64 c.st.2, .string c.value, .int .i64 c.num.1, .int .i64 c.num.2, .slice ae c.ents.length ce, .slice al c.elems.length cl, .slice at_ c.seen.length cs] := by unfold cval; rw [hk]
  rw [hcv]
  have HV := Lib.hid hcv
  have f0 : Frm No w (w.alloc (.cells #[.int .i64 3, .bool c.set, .int .i64 c.st.1, .int .i64 c.st.2, .string c.value, .int .i64 c.num.1, .int .i64 c.num.2, .slice ae c.ents.length ce, .slice al c.elems.length cl, .slice at_ c.seen.length cs] 75 (0, 0))) := (Frm.refl No w).al _
  have HK := refLive_ok (HR.out.no f0) hb
  rw [hcv] at HK
  have HK := Lib.hid HK
  have hfl : (liveL c.elems).length ≤ c.elems.length := live_len _
  unfold reachBytes at hbl
  clear he hl hs hb hk hcv HR
  go_enter Tryz.func41, Tryz.ntmps41
  go_wp2_with (fail)
  refine HK.out.mono ?_
  rintro e w1 ⟨a1, n1, c1, rfl, o1, f1⟩
  have F1 : Frm No w w1 := f0.trans f1
  clear HK f1 f0
  obtain ⟨L, hL⟩ : ∃ L, Hid (L = liveL c.elems) := ⟨_, Lib.hid rfl⟩
  rw [← hL.out] at o1 hfl
  have hn := o1.rd.facts
  have HN := Lib.hid hn.1
  have hnle : n1 ≤ c.elems.length := by omega
  have R1 := Lib.hid o1.rd
  clear o1 hn
  go_wp2_with (fail)
  go_loopg [5, 6] (n1 + 1) (fun g ov iv wr => ∃ (i : Nat) (ao : Option Addr) (co : Nat), iv = .int .i64 i ∧ ov = .slice ao i co ∧ i ≤ n1 ∧ g = n1 - i + 1 ∧ Frm No w1 wr ∧ Ow wr (fun k => w1.heap.size ≤ k) 9 eStr (.slice ao i co) (mapV (L.take i)))
  case atStart => exact ⟨0, none, 0, rfl, rfl, Nat.zero_le _, by omega, Frm.refl _ _, Ow.nil _ _ _ _ _⟩
  case round =>
    obtain ⟨i, ao, co, rfl, rfl, hi, hg, F, O⟩ := hrel
    have hG := Lib.hid hg
    clear hg
    by_cases hlt : i < n1
    · have l1 : i < L.length := by rw [← HN.out]; exact hlt
      obtain ⟨b, off, rfl, hbb, hc⟩ := (R1.out.no F).at l1
      have e3 : wr.cell? ⟨b, off + i * 5 + 3, none⟩ = some (.string L[i].2.2.2.1) := hc 3 _ rfl
      clear hc
      obtain ⟨x, hx⟩ : ∃ x, Hid (x = L[i]) := ⟨_, Lib.hid rfl⟩
      rw [← hx.out] at e3
      have hlen := O.cap.1
      have HLN := Lib.hid hlen
      clear hlen
      go_wp2_with (at_builtin; refine wpList_ap _ rfl (.tmp 18) (.tmp 24) 28 28 rfl 9 _ 16 Tryz.underlying28 i_str rfl (O.al _) ((RdS.litg _ eStr x.2.2.2.1 _ (g := wr.heap.size) (by simp)).src Tryz.underlying28) rfl rfl rfl ?c1 ?c2 ?_)
      case c1 => rw [← HLN.out]; unfold maxLen; omega
      case c2 => rw [← HLN.out]; omega
      intro a' c' w2 o2 f2
      have F2 : Frm No w1 w2 := (F.al _).then f2 fun k hk hh => by omega
      rw [← HLN.out] at o2
      go_wp2_with (fail)
      go_roundg (n1 - (i + 1) + 1)
      case measure => have := hG.out; omega
      case rel => exact ⟨i + 1, a', c', by go_num, by rw [← HLN.out], by omega, rfl, F2, by rw [valsL_step l1 hx]; exact o2.mono fun k _ hh => by rcases hh with hh | hh; exact hh; have := hh.1; have := F.size; simp at *; omega⟩
    · have hii : ¬ ((i : Int) < n1) := by omega
      obtain rfl : i = n1 := by omega
      go_wp2_with (fail)
      go_ret2
      have ht : L.take i = L := List.take_of_length_le (by rw [← HN.out]; omega)
      rw [ht] at O
      have hv : valsL c.elems = mapV L := by rw [hL.out]; rfl
      rw [hv]
      exact ⟨ao, i, co, rfl, O.fin F1.size, F1.trans F⟩
end Go.Proofs.YtgpdpalhkkjmiaaGreatDoor

/- Whole numbers as floats of 64 bits: what is written is read again; sums; comparisons; back to whole numbers. No program in sight. -/
namespace Go.Tt
set_option linter.unusedVariables false
set_option linter.unusedSimpArgs false
open Ieee
theorem log2_mul_pow {N : Nat} (h : N ≠ 0) (k : Nat) : (N * 2 ^ k).log2 = N.log2 + k := by
  have hp : 0 < 2 ^ k := Nat.two_pow_pos k
  have h' : N * 2 ^ k ≠ 0 := Nat.mul_ne_zero h (Nat.ne_of_gt hp)
  apply Nat.le_antisymm
  · have := (Nat.log2_lt h' (k := N.log2 + k + 1)).2 (by
      rw [show N.log2 + k + 1 = (N.log2 + 1) + k by omega, Nat.pow_add]
      exact Nat.mul_lt_mul_of_pos_right Nat.lt_log2_self hp)
    omega
  · refine (Nat.le_log2 h').2 ?_
    rw [Nat.pow_add]
    exact Nat.mul_le_mul_right _ (Nat.log2_self_le h)
theorem cut_even (neg : Bool) {N : Nat} (h : N ≠ 0) (k : Nat) : Toward.even.cut neg (N * 2 ^ k) k = N := by
  unfold Toward.cut
  have e : min k ((N * 2 ^ k).log2 + 2) = k := by rw [log2_mul_pow h]; omega
  have hp : 0 < 2 ^ k := Nat.two_pow_pos k
  simp only [e, Nat.one_shiftLeft, Nat.mul_div_cancel _ hp, Nat.mul_mod_left]
  have h0 : ¬ 2 ^ k < 2 * 0 := by omega
  have h1 : ¬ 2 ^ k = 0 := by omega
  simp [h1]
theorem cut_zero (neg : Bool) {N : Nat} (h : N ≠ 0) (k : Nat) : Toward.zero.cut neg (N * 2 ^ k) k = N := by
  unfold Toward.cut
  have e : min k ((N * 2 ^ k).log2 + 2) = k := by rw [log2_mul_pow h]; omega
  have hp : 0 < 2 ^ k := Nat.two_pow_pos k
  simp only [e, Nat.one_shiftLeft, Nat.mul_div_cancel _ hp]
  simp
theorem cut_zero0 (neg : Bool) (k : Nat) : Toward.zero.cut neg 0 k = 0 := by
  unfold Toward.cut
  simp
/-- The rung of a whole number below 2^53. -/
def rung (N : Nat) : Nat := (N.log2 + 1022) * 2 ^ 52 + N * 2 ^ (52 - N.log2)
theorem log_lt {N : Nat} (h0 : N ≠ 0) (h : N < 2 ^ 53) : N.log2 ≤ 52 := by
  have := (Nat.log2_lt h0 (k := 53)).2 h
  omega
theorem rung_bd {N : Nat} (h0 : N ≠ 0) (h : N < 2 ^ 53) : 2 ^ 52 ≤ N * 2 ^ (52 - N.log2) ∧ N * 2 ^ (52 - N.log2) < 2 ^ 53 := by
  have hl := log_lt h0 h
  constructor
  · calc 2 ^ 52 = 2 ^ N.log2 * 2 ^ (52 - N.log2) := by rw [← Nat.pow_add]; congr 1; omega
      _ ≤ N * 2 ^ (52 - N.log2) := Nat.mul_le_mul_right _ (Nat.log2_self_le h0)
  · calc N * 2 ^ (52 - N.log2) < 2 ^ (N.log2 + 1) * 2 ^ (52 - N.log2) := Nat.mul_lt_mul_of_pos_right Nat.lt_log2_self (Nat.two_pow_pos _)
      _ = 2 ^ 53 := by rw [← Nat.pow_add]; congr 1; omega
theorem near_exact (neg : Bool) {N : Nat} (h0 : N ≠ 0) (h : N < 2 ^ 53) (j : Nat) : double.nearest neg (N * 2 ^ j) (-(j : Int)) = double.word neg (rung N) := by
  have hp : 0 < 2 ^ j := Nat.two_pow_pos j
  have h' : N * 2 ^ j ≠ 0 := Nat.mul_ne_zero h0 (Nat.ne_of_gt hp)
  have hl := log_lt h0 h
  have hb := rung_bd h0 h
  unfold Format.nearest
  rw [if_neg h']
  have e1 : max (-(j : Int) + ((N * 2 ^ j).log2 : Nat) - (double.fractionBits : Nat)) double.leastPlace = (N.log2 : Int) - 52 := by
    rw [log2_mul_pow h0]
    show max (-(j : Int) + ((N.log2 + j : Nat) : Int) - ((52 : Nat) : Int)) (2 - 2 ^ (11 - 1) - ((52 : Nat) : Int)) = _
    omega
  simp only [e1]
  have e2 : Toward.even.cut neg ((N * 2 ^ j) <<< (-(j : Int) - ((N.log2 : Int) - 52)).toNat) (((N.log2 : Int) - 52) - -(j : Int)).toNat = N * 2 ^ (52 - N.log2) := by
    by_cases hj : j ≤ 52 - N.log2
    · rw [show (-(j : Int) - ((N.log2 : Int) - 52)).toNat = 52 - N.log2 - j by omega, show (((N.log2 : Int) - 52) - -(j : Int)).toNat = 0 by omega, Nat.shiftLeft_eq, Nat.mul_assoc, ← Nat.pow_add, show j + (52 - N.log2 - j) = 52 - N.log2 by omega]
      have := cut_even neg (N := N * 2 ^ (52 - N.log2)) (by omega) 0
      rwa [Nat.pow_zero, Nat.mul_one] at this
    · rw [show (-(j : Int) - ((N.log2 : Int) - 52)).toNat = 0 by omega, show (((N.log2 : Int) - 52) - -(j : Int)).toNat = j - (52 - N.log2) by omega, Nat.shiftLeft_zero]
      have := cut_even neg (N := N * 2 ^ (52 - N.log2)) (by omega) (j - (52 - N.log2))
      rwa [Nat.mul_assoc, ← Nat.pow_add, show 52 - N.log2 + (j - (52 - N.log2)) = j by omega] at this
  rw [e2]
  have e3 : (((N.log2 : Int) - 52) - double.leastPlace).toNat = N.log2 + 1022 := by
    show (((N.log2 : Int) - 52) - (2 - 2 ^ (11 - 1) - ((52 : Nat) : Int))).toNat = _
    omega
  rw [e3]
  have e4 : double.binade = 2 ^ 52 := rfl
  have e5 : double.infRung = 2047 * 2 ^ 52 := rfl
  rw [e4, e5]
  congr 1
  show min ((N.log2 + 1022) * 2 ^ 52 + N * 2 ^ (52 - N.log2)) (2047 * 2 ^ 52) = rung N
  unfold rung
  omega
theorem read_word (neg : Bool) {N : Nat} (h0 : N ≠ 0) (h : N < 2 ^ 53) : double.read (double.word neg (rung N)) = .number neg (N * 2 ^ (52 - N.log2)) (-((52 - N.log2 : Nat) : Int)) := by
  have hl := log_lt h0 h
  obtain ⟨hb1, hb2⟩ := rung_bd h0 h
  have hr : rung N = (N.log2 + 1022) * 2 ^ 52 + N * 2 ^ (52 - N.log2) := rfl
  have s1 : double.signWeight = 2 ^ 63 := rfl
  have s2 : double.binade = 2 ^ 52 := rfl
  have s3 : double.infRung = 2047 * 2 ^ 52 := rfl
  generalize hX : N * 2 ^ (52 - N.log2) = X at *
  generalize hL : N.log2 = L at *
  have s4 : double.leastPlace = -1074 := by decide
  unfold Format.read Format.word
  simp only [s1, s2, s3, s4, hr]
  have w1 : (if neg then 2 ^ 63 + ((L + 1022) * 2 ^ 52 + X) else (L + 1022) * 2 ^ 52 + X) / 2 ^ 63 % 2 = if neg then 1 else 0 := by
    cases neg <;> simp only [if_true, if_false, Bool.false_eq_true] <;> omega
  have w2 : (if neg then 2 ^ 63 + ((L + 1022) * 2 ^ 52 + X) else (L + 1022) * 2 ^ 52 + X) % 2 ^ 63 = (L + 1022) * 2 ^ 52 + X := by
    cases neg <;> simp only [if_true, if_false, Bool.false_eq_true] <;> omega
  rw [w1, w2]
  rw [if_neg (by omega), if_pos (by omega)]
  have w3 : ((if neg then 1 else 0) == 1) = neg := by cases neg <;> rfl
  have w4 : 2 ^ 52 + ((L + 1022) * 2 ^ 52 + X) % 2 ^ 52 = X := by omega
  have w5 : ((L + 1022) * 2 ^ 52 + X) / 2 ^ 52 - 1 = L + 1022 := by omega
  rw [w3, w4, w5, show (-1074 : Int) + ((L + 1022 : Nat) : Int) = -((52 - L : Nat) : Int) by omega]
/-- A whole number as a float. -/
def fl (n : Int) : Nat := FloatKind.f64.nearest n
theorem fl_def (n : Int) : fl n = double.nearest (decide (n < 0)) n.natAbs 0 := rfl
theorem fl_zero : fl 0 = double.word false 0 := rfl
theorem fl_of {n : Int} (h0 : n ≠ 0) (h : n.natAbs < 2 ^ 53) : fl n = double.word (decide (n < 0)) (rung n.natAbs) := by
  have := near_exact (decide (n < 0)) (N := n.natAbs) (by omega) h 0
  rw [fl_def, ← this, Nat.pow_zero, Nat.mul_one]
  rfl
theorem fl_read {n : Int} (h : n.natAbs < 2 ^ 53) : ∃ k : Nat, double.read (fl n) = .number (decide (n < 0)) (n.natAbs * 2 ^ k) (-(k : Int)) := by
  by_cases h0 : n = 0
  · subst h0
    have key : ∀ k : Nat, k = 1074 → double.read (fl 0) = .number (decide ((0 : Int) < 0)) ((0 : Int).natAbs * 2 ^ k) (-(k : Int)) := by
      intro k hk
      rw [show (0 : Int).natAbs = 0 from rfl, Nat.zero_mul]
      subst hk
      rfl
    exact ⟨1074, key 1074 rfl⟩
  · exact ⟨52 - n.natAbs.log2, by rw [fl_of h0 h]; exact read_word _ (by omega) h⟩
theorem signed_of (n : Int) (k u : Nat) : signed (decide (n < 0)) (n.natAbs * 2 ^ k) u = n * 2 ^ (k + u) := by
  unfold signed
  rw [Nat.shiftLeft_eq, Nat.mul_assoc, ← Nat.pow_add]
  by_cases h : n < 0
  · simp only [h, decide_true, if_true]
    rw [Int.natCast_mul, Int.natCast_pow, ← Int.neg_mul]
    congr 1
    omega
  · simp only [h, decide_false, Bool.false_eq_true, if_false]
    rw [Int.natCast_mul, Int.natCast_pow]
    congr 1
    omega
theorem fl_write {n : Int} (h : n.natAbs < 2 ^ 53) (b : Bool) (hb : b = decide (n < 0)) (k : Nat) : double.write (.number b (n.natAbs * 2 ^ k) (-(k : Int))) = fl n := by
  subst hb
  show double.nearest _ _ _ = _
  by_cases h0 : n = 0
  · subst h0
    simp [Format.nearest, fl_zero]
  · rw [near_exact _ (by omega) h, fl_of h0 h]
theorem mul_pow_lt {n : Int} (k : Nat) : (n * 2 ^ k < 0) ↔ n < 0 := by
  have hp : (0 : Int) < 2 ^ k := Int.pow_pos (by decide)
  constructor
  · intro h
    rcases Int.lt_or_le n 0 with h1 | h1
    · exact h1
    · have := Int.mul_nonneg h1 (Int.le_of_lt hp); omega
  · intro h
    exact Int.mul_neg_of_neg_of_pos h hp
theorem natAbs_mul_pow (n : Int) (k : Nat) : (n * 2 ^ k).natAbs = n.natAbs * 2 ^ k := by
  rw [Int.natAbs_mul, Int.natAbs_pow]; rfl
theorem fl_add {a b : Int} (ha : a.natAbs < 2 ^ 53) (hb : b.natAbs < 2 ^ 53) (hab : (a + b).natAbs < 2 ^ 53) : double.add (fl a) (fl b) = some (fl (a + b)) := by
  obtain ⟨k, hk⟩ := fl_read ha
  obtain ⟨l, hl⟩ := fl_read hb
  unfold Format.add
  rw [hk, hl]
  have key : ∀ m : Nat, k ≤ m → l ≤ m → min (-(k : Int)) (-(l : Int)) = -(m : Int) → (Datum.sum (.number (decide (a < 0)) (a.natAbs * 2 ^ k) (-(k : Int))) (.number (decide (b < 0)) (b.natAbs * 2 ^ l) (-(l : Int)))).map double.write = some (fl (a + b)) := by
    intro m h1 h2 h3
    unfold Datum.sum
    simp only [h3, Option.map_some, Option.some.injEq]
    rw [show (-(k : Int) - -(m : Int)).toNat = m - k by omega, show (-(l : Int) - -(m : Int)).toNat = m - l by omega, signed_of, signed_of, show k + (m - k) = m by omega, show l + (m - l) = m by omega, ← Int.add_mul, natAbs_mul_pow]
    refine fl_write hab _ ?_ m
    have hp : (2 : Int) ^ m ≠ 0 := Int.ne_of_gt (Int.pow_pos (by decide))
    by_cases h0 : a + b = 0
    · rw [h0, Int.zero_mul, if_pos rfl]
      have : ¬ (a < 0 ∧ b < 0) := by omega
      rw [← Bool.decide_and]
      simp [this]
    · rw [if_neg (by intro e; rcases Int.mul_eq_zero.1 e with e | e <;> contradiction)]
      simp only [mul_pow_lt]
  by_cases hkl : k ≤ l
  · exact key l hkl (Nat.le_refl _) (by omega)
  · exact key k (Nat.le_refl _) (by omega) (by omega)
theorem fl_order {a b : Int} (ha : a.natAbs < 2 ^ 53) (hb : b.natAbs < 2 ^ 53) : double.order (fl a) (fl b) = some (compare a b) := by
  obtain ⟨k, hk⟩ := fl_read ha
  obtain ⟨l, hl⟩ := fl_read hb
  unfold Format.order
  rw [hk, hl]
  have key : ∀ m : Nat, k ≤ m → l ≤ m → min (-(k : Int)) (-(l : Int)) = -(m : Int) → Datum.order (.number (decide (a < 0)) (a.natAbs * 2 ^ k) (-(k : Int))) (.number (decide (b < 0)) (b.natAbs * 2 ^ l) (-(l : Int))) = some (compare a b) := by
    intro m h1 h2 h3
    unfold Datum.order
    simp only [h3, Option.some.injEq]
    rw [show (-(k : Int) - -(m : Int)).toNat = m - k by omega, show (-(l : Int) - -(m : Int)).toNat = m - l by omega, signed_of, signed_of, show k + (m - k) = m by omega, show l + (m - l) = m by omega]
    have hp : (0 : Int) < 2 ^ m := Int.pow_pos (by decide)
    have c1 : a * 2 ^ m < b * 2 ^ m ↔ a < b := ⟨fun h => Int.lt_of_mul_lt_mul_right h (Int.le_of_lt hp), fun h => Int.mul_lt_mul_of_pos_right h hp⟩
    have c2 : a * 2 ^ m = b * 2 ^ m ↔ a = b := ⟨fun h => Int.eq_of_mul_eq_mul_right (Int.ne_of_gt hp) h, fun h => by rw [h]⟩
    show compareOfLessAndEq _ _ = compareOfLessAndEq _ _
    unfold compareOfLessAndEq
    simp only [c1, c2]
  by_cases hkl : k ≤ l
  · exact key l hkl (Nat.le_refl _) (by omega)
  · exact key k (Nat.le_refl _) (by omega) (by omega)
theorem fl_toInt {n : Int} (h : n.natAbs < 2 ^ 53) : (FloatKind.f64.decode (fl n)).toInt .zero = some n := by
  obtain ⟨k, hk⟩ := fl_read h
  show (double.read (fl n)).toInt .zero = some n
  rw [hk]
  unfold Datum.toInt Datum.integral
  simp only
  rw [show (-(k : Int)).toNat = 0 by omega, Nat.shiftLeft_zero, show (- -(k : Int)).toNat = k by omega]
  have e : Toward.zero.cut (decide (n < 0)) (n.natAbs * 2 ^ k) k = n.natAbs := by
    by_cases h0 : n.natAbs = 0
    · rw [h0, Nat.zero_mul]; exact cut_zero0 _ _
    · exact cut_zero _ h0 k
  rw [e]
  have := signed_of n 0 0
  rw [Nat.pow_zero, Nat.mul_one] at this
  simp [this]
/-- The sum of two whole numbers of at most 2^52: what is asked of it. -/
theorem fl_sum {a b : Int} (ha : -4503599627370496 ≤ a ∧ a ≤ 4503599627370496) (hb : -4503599627370496 ≤ b ∧ b ≤ 4503599627370496) :
    ∃ z, FloatKind.f64.format.add (fl a) (fl b) = some z ∧ FloatKind.f64.format.order z 14064741636278059008 = some (compare (a + b) (-4503599627370496)) ∧ FloatKind.f64.format.order z 4841369599423283200 = some (compare (a + b) 4503599627370496) ∧
      (-4503599627370496 ≤ a + b → a + b ≤ 4503599627370496 → (FloatKind.f64.decode z).toInt .zero = some (a + b)) := by
  have c1 : (14064741636278059008 : Nat) = fl (-4503599627370496) := by decide +kernel
  have c2 : (4841369599423283200 : Nat) = fl 4503599627370496 := by decide +kernel
  by_cases h : (a + b).natAbs < 2 ^ 53
  · refine ⟨fl (a + b), fl_add (by omega) (by omega) h, ?_, ?_, fun _ _ => fl_toInt h⟩
    · rw [c1]; exact fl_order h (by decide)
    · rw [c2]; exact fl_order h (by decide)
  · have hc : (a = 4503599627370496 ∧ b = 4503599627370496) ∨ (a = -4503599627370496 ∧ b = -4503599627370496) := by omega
    rcases hc with ⟨rfl, rfl⟩ | ⟨rfl, rfl⟩
    · exact ⟨4845873199050653696, by decide +kernel, by decide +kernel, by decide +kernel, fun _ h => by omega⟩
    · exact ⟨14069245235905429504, by decide +kernel, by decide +kernel, by decide +kernel, fun h _ => by omega⟩
theorem cmp_ge {n m : Int} : (compare n m == .gt || compare n m == .eq) = decide (m ≤ n) := by
  show (compareOfLessAndEq n m == .gt || compareOfLessAndEq n m == .eq) = _
  unfold compareOfLessAndEq
  by_cases h1 : n < m
  · rw [if_pos h1, decide_eq_false (by omega)]; rfl
  · rw [if_neg h1]
    by_cases h2 : n = m
    · rw [if_pos h2, decide_eq_true (by omega)]; rfl
    · rw [if_neg h2, decide_eq_true (by omega)]; rfl
theorem cmp_le {n m : Int} : (compare n m == .lt || compare n m == .eq) = decide (n ≤ m) := by
  show (compareOfLessAndEq n m == .lt || compareOfLessAndEq n m == .eq) = _
  unfold compareOfLessAndEq
  by_cases h1 : n < m
  · rw [if_pos h1, decide_eq_true (by omega)]; rfl
  · rw [if_neg h1]
    by_cases h2 : n = m
    · rw [if_pos h2, decide_eq_true (by omega)]; rfl
    · rw [if_neg h2, decide_eq_false (by omega)]; rfl
end Go.Tt

/- Layers 6 and 8: sums of pairs; count.Add. -/
namespace Go.Proofs.YtgpdpalhkkjmiaaGreatDoor
set_option linter.unusedVariables false
set_option linter.unusedSimpArgs false
open Go.RowKit Go.Lib Go.Tt Go.Shelf
/-- May a pair be? -/
def pairMay (p : Int × Int) : Bool := decide ((-4503599627370496 ≤ p.1 ∧ p.1 ≤ 4503599627370496) ∧ -4503599627370496 ≤ p.2 ∧ p.2 ≤ 4503599627370496)
def inPart (n : Int) : Bool := decide (-4503599627370496 ≤ n ∧ n ≤ 4503599627370496)
set_option maxRecDepth 100000 in
theorem part_ok {z : Nat} {n : Int} (h1 : FloatKind.f64.format.order z 14064741636278059008 = some (compare n (-4503599627370496))) (h2 : FloatKind.f64.format.order z 4841369599423283200 = some (compare n 4503599627370496)) (w : World) :
    Calls Tryz.prog 165 #[.float .f64 z] w fun e w' => e = .returned (.bool (inPart n)) ∧ w = w' := by
  obtain ⟨B, hB⟩ : ∃ B, Hid (B = inPart n) := ⟨_, Lib.hid rfl⟩
  rw [← hB.out]
  go_enter Tryz.func165, Tryz.ntmps165
  go_wp2_with (fail)
  have e1 := cmp_ge (n := n) (m := -4503599627370496)
  have e2 := cmp_le (n := n) (m := 4503599627370496)
  all_goals go_ret
  all_goals refine ⟨congrArg (fun b => Ending.returned (Value.bool b)) ?_, rfl⟩
  all_goals rw [hB.out]
  all_goals unfold inPart
  all_goals rw [Bool.decide_and, ← cmp_ge, ← cmp_le]
  all_goals first | rfl | (simp_all) 
set_option maxRecDepth 100000 in
theorem number_yes {p : Int × Int} (h : pairMay p = true) (w : World) :
    Calls Tryz.prog 129 #[.agg #[.int .i64 p.1, .int .i64 p.2]] w fun e w' => e = .returned (.tuple #[.complex .f64 (fl p.1) (fl p.2), .bool true]) ∧ Frm No w w' := by
  have h' := of_decide_eq_true h
  have m1 : ¬ 4503599627370496 < max p.1 p.2 := by omega
  have m2 : ¬ min p.1 p.2 < -4503599627370496 := by omega
  clear h h'
  go_enter Tryz.func129, Tryz.ntmps129
  go_wp2_with (fail)
  go_ret2
  exact ⟨rfl, (Frm.refl No w).al _⟩
set_option maxRecDepth 100000 in
theorem number_no {p : Int × Int} (h : pairMay p = false) (w : World) :
    Calls Tryz.prog 129 #[.agg #[.int .i64 p.1, .int .i64 p.2]] w fun e w' => e = .returned (.tuple #[.complex .f64 0 0, .bool false]) ∧ Frm No w w' := by
  have h' := of_decide_eq_false h
  by_cases m1 : 4503599627370496 < max p.1 p.2
  · clear h h'
    go_enter Tryz.func129, Tryz.ntmps129
    go_wp2_with (fail)
    go_ret2
    exact ⟨rfl, (Frm.refl No w).al _⟩
  · have m2 : min p.1 p.2 < -4503599627370496 := by omega
    clear h h'
    go_enter Tryz.func129, Tryz.ntmps129
    go_wp2_with (fail)
    go_ret2
    exact ⟨rfl, (Frm.refl No w).al _⟩
set_option maxRecDepth 100000 in
theorem gmay_ok {z1 z2 : Nat} {n1 n2 : Int} (h1 : FloatKind.f64.format.order z1 14064741636278059008 = some (compare n1 (-4503599627370496))) (h2 : FloatKind.f64.format.order z1 4841369599423283200 = some (compare n1 4503599627370496))
    (h3 : FloatKind.f64.format.order z2 14064741636278059008 = some (compare n2 (-4503599627370496))) (h4 : FloatKind.f64.format.order z2 4841369599423283200 = some (compare n2 4503599627370496)) (w : World) :
    Calls Tryz.prog 130 #[.complex .f64 z1 z2] w fun e w' => e = .returned (.bool (inPart n1 && inPart n2)) ∧ w = w' := by
  have c1 := Lib.hid (fun W => part_ok h1 h2 W)
  have c2 := Lib.hid (fun W => part_ok h3 h4 W)
  clear h1 h2 h3 h4
  generalize inPart n1 = p at c1 ⊢
  generalize inPart n2 = q at c2 ⊢
  cases p with
  | false =>
    go_enter Tryz.func130, Tryz.ntmps130
    go_wp2_with (fail)
    refine (c1.out _).mono ?_
    rintro e w' ⟨rfl, rfl⟩
    go_wp2_with (fail)
    go_ret
    exact ⟨rfl, rfl⟩
  | true =>
    go_enter Tryz.func130, Tryz.ntmps130
    go_wp2_with (fail)
    refine (c1.out _).mono ?_
    rintro e w' ⟨rfl, rfl⟩
    go_wp2_with (fail)
    refine (c2.out _).mono ?_
    rintro e w' ⟨rfl, rfl⟩
    go_wp2_with (fail)
    go_ret
    exact ⟨rfl, rfl⟩
set_option maxRecDepth 100000 in
theorem gpair_ok {z1 z2 : Nat} {n1 n2 : Int} (h1 : (FloatKind.f64.decode z1).toInt .zero = some n1) (h2 : (FloatKind.f64.decode z2).toInt .zero = some n2) (b1 : -4503599627370496 ≤ n1 ∧ n1 ≤ 4503599627370496) (b2 : -4503599627370496 ≤ n2 ∧ n2 ≤ 4503599627370496) (w : World) :
    Calls Tryz.prog 131 #[.complex .f64 z1 z2] w fun e w' => e = .returned (.agg #[.int .i64 n1, .int .i64 n2]) ∧ Frm No w w' := by
  obtain ⟨b1, b3⟩ := b1
  obtain ⟨b2, b4⟩ := b2
  have v1 : floatToIntVal .f64 z1 .i64 = some n1 := by unfold floatToIntVal; simp only [h1]; rw [if_pos]; exact ⟨by show -9223372036854775808 ≤ n1; omega, by show n1 ≤ 9223372036854775807; omega⟩
  have v2 : floatToIntVal .f64 z2 .i64 = some n2 := by unfold floatToIntVal; simp only [h2]; rw [if_pos]; exact ⟨by show -9223372036854775808 ≤ n2; omega, by show n2 ≤ 9223372036854775807; omega⟩
  have r1 := fun W => run_convert_float_int (P := Tryz.prog) W 199 3 .f64 .i64 z1 n1 (by rw [Tryz.underlying199]; rfl) Tryz.underlying3 v1
  have r2 := fun W => run_convert_float_int (P := Tryz.prog) W 199 3 .f64 .i64 z2 n2 (by rw [Tryz.underlying199]; rfl) Tryz.underlying3 v2
  clear h1 h2 v1 v2
  go_enter Tryz.func131, Tryz.ntmps131
  go_wp2_with (fail)
  refine bodyPost_ret (v := .agg #[.int .i64 n1, .int .i64 n2]) (by simp [results, Tryz.results131, go_sem, *]) rfl ?_
  exact ⟨rfl, (Frm.refl No w).al _⟩
end Go.Proofs.YtgpdpalhkkjmiaaGreatDoor

/- Merged: RefL RefS RefName RefDots RefT RefQ RefQs. -/
import Derived.Test.YtofikfkgiblblaaGreatDoorQ08
import Derived.Test.YtofikfkgiblblaaGreatDoorQ10
import Derived.Test.YtofikfkgiblblaaGreatDoorQ25
import Derived.Test.YtofikfkgiblblaaGreatDoorQ26
import Derived.Test.YtofikfkgiblblaaGreatDoorQ27
import Derived.Test.YtofikfkgiblblaaGreatDoorQ28
import Derived.Test.YtofikfkgiblblaaGreatDoorQ30
import Derived.Test.YtofikfkgiblblaaGreatDoorQ34
import Derived.Test.YtofikfkgiblblaaGreatDoorQ41
set_option linter.unusedVariables false
set_option linter.unusedSimpArgs false
/- The reference's lists: place, live, ListValues. -/
namespace Go.Proofs.YtofikfkgiblblaaGreatDoor
set_option linter.unusedVariables false
set_option linter.unusedSimpArgs false
open Go.RowKit Go.Lib Go.Tt Go.Shelf
theorem findEl_at {l : List El} {d : Dt} {i : Nat} (h : i < l.length) (hd : ((l[i]).1, (l[i]).2.1) = d) (hb : ∀ j (hj : j < l.length), j < i → ((l[j]).1, (l[j]).2.1) ≠ d) : findEl l d = i := by
  unfold findEl idxFL
  have e : l.findIdx (fun e => decide ((e.1, e.2.1) = d)) = i := by
    refine (List.findIdx_eq h).2 ⟨decide_eq_true hd, fun j hj => ?_⟩
    exact decide_eq_false (hb j (by omega) hj)
  rw [e, if_pos h]
theorem findEl_no {l : List El} {d : Dt} (hb : ∀ j (hj : j < l.length), ((l[j]).1, (l[j]).2.1) ≠ d) : findEl l d = -1 := by
  unfold findEl idxFL
  have e : l.findIdx (fun e => decide ((e.1, e.2.1) = d)) = l.length := List.findIdx_eq_length.2 fun x hx => by
    obtain ⟨j, hj, rfl⟩ := List.getElem_of_mem hx
    exact decide_eq_false (hb j hj)
  rw [e, if_neg (by omega)]
set_option maxHeartbeats 1000000 in
set_option maxRecDepth 100000 in
theorem refPlace_ok {w : World} {c : CellV} {ve vl vs : Value} (h : CellR w c ve vl vs) (d : Dt) :
    Calls Tryz.prog 98 #[cval c ve vl vs, .agg #[.int .i64 d.1, .int .i64 d.2]] w fun e w' => e = .returned (.int .i64 (findEl c.elems d)) ∧ Frm No w w' := by
  obtain ⟨he, hl, hs⟩ := h
  obtain ⟨ae, ce, rfl⟩ := he.sh
  obtain ⟨al, cl, rfl⟩ := hl.sh
  obtain ⟨at_, cs, rfl⟩ := hs.sh
  clear he hs
  obtain ⟨hn, hc1, hc2, -⟩ := hl.facts
  unfold maxLen at hc2
  clear hn
  obtain ⟨R, hR⟩ : ∃ R, Hid (R = findEl c.elems d) := ⟨_, Lib.hid rfl⟩
  rw [← hR.out]
  unfold cval
  obtain ⟨d1, d2⟩ := d
  have HE := Lib.hid hl
  clear hl
  go_enter Tryz.func98, Tryz.ntmps98
  go_wp2_with (fail)
  go_loopg [5] (c.elems.length + 1) (fun g iv wr => ∃ i : Nat, iv = .int .i64 i ∧ i ≤ c.elems.length ∧ g = c.elems.length - i + 1 ∧ Frm No w wr ∧
    wr.heap[w.heap.size]? = some (.cells #[.int .i64 c.kind, .bool c.set, .int .i64 c.st.1, .int .i64 c.st.2, .string c.value, .int .i64 c.num.1, .int .i64 c.num.2, .slice ae c.ents.length ce, .slice al c.elems.length cl, .slice at_ c.seen.length cs] 30 (0, 0)) ∧
    wr.heap[w.heap.size + 1]? = some (.cells #[.int .i64 d1, .int .i64 d2] 32 (0, 0)) ∧
    ∀ j (hj : j < c.elems.length), j < i → ((c.elems[j]).1, (c.elems[j]).2.1) ≠ (d1, d2))
  case atStart => exact ⟨0, rfl, Nat.zero_le _, by omega, ((Frm.refl No w).al _).al _, al_old (heap_alloc_new w _), al_at (by simp), fun j _ h => absurd h (Nat.not_lt_zero _)⟩
  case round =>
    obtain ⟨i, rfl, hi, hg, F, B, C, hp⟩ := hrel
    have hG := Lib.hid hg
    have HP := Lib.hid hp
    clear hg hp
    have n1 := lt_of_block B
    have n2 := lt_of_block C
    have q8 : wr.cell? ⟨w.heap.size, 8, none⟩ = some (.slice al c.elems.length cl) := obj_cell B 8
    have r0 : wr.cell? ⟨w.heap.size + 1, 0, none⟩ = some (.int .i64 d1) := obj_cell C 0
    have r1 : wr.cell? ⟨w.heap.size + 1, 1, none⟩ = some (.int .i64 d2) := obj_cell C 1
    by_cases hlt : i < c.elems.length
    · obtain ⟨b, off, rfl, hbl, hc⟩ := (HE.out.no F).at hlt
      have e0 : wr.cell? ⟨b, off + i * 5, none⟩ = some (.int .i64 c.elems[i].1) := hc 0 _ rfl
      have e1 : wr.cell? ⟨b, off + i * 5 + 1, none⟩ = some (.int .i64 c.elems[i].2.1) := hc 1 _ rfl
      clear hc
      obtain ⟨x, hx⟩ : ∃ x, Hid (x = c.elems[i]) := ⟨_, Lib.hid rfl⟩
      rw [← hx.out] at e0 e1
      go_wp2
      refine wp_region_plan [([0, 1, 2, 3, 4, 5, 6, 7], [])] 22 (by kernel_rfl) (by kernel_rfl) (by simp) ?_
      intro N hN
      simp only [wpSegs, List.map_cons, List.map_nil, List.getD_cons_zero, List.getD_cons_succ]
      have F2 := F.trans (Frm.drew No wr)
      have B2 := (Frm.drew No wr).obj B id
      have C2 := (Frm.drew No wr).obj C id
      by_cases h1 : x.1 = d1
      · by_cases h2 : x.2.1 = d2
        · have hE : Hid (R = (i : Int)) := Lib.hid (by rw [hR.out]; exact findEl_at hlt (by rw [← hx.out, h1, h2]) HP.out)
          go_wp2
          go_ret
          exact ⟨congrArg (fun b => Ending.returned (Value.int .i64 b)) hE.out.symm, F2⟩
        · have hne : Hid (((c.elems[i]).1, (c.elems[i]).2.1) ≠ (d1, d2)) := Lib.hid (by rw [← hx.out]; intro e; exact h2 (Prod.ext_iff.1 e).2)
          go_wp2
          go_roundg (c.elems.length - (i + 1) + 1)
          case measure => have := hG.out; omega
          case rel => exact ⟨i + 1, by go_num, by omega, rfl, F2, B2, C2, fun j hj hji => by
            rcases Nat.lt_or_ge j i with h | h
            · exact HP.out j hj h
            · obtain rfl : j = i := by omega
              exact hne.out⟩
      · have hne : Hid (((c.elems[i]).1, (c.elems[i]).2.1) ≠ (d1, d2)) := Lib.hid (by rw [← hx.out]; intro e; exact h1 (Prod.ext_iff.1 e).1)
        go_wp2
        go_roundg (c.elems.length - (i + 1) + 1)
        case measure => have := hG.out; omega
        case rel => exact ⟨i + 1, by go_num, by omega, rfl, F2, B2, C2, fun j hj hji => by
            rcases Nat.lt_or_ge j i with h | h
            · exact HP.out j hj h
            · obtain rfl : j = i := by omega
              exact hne.out⟩
    · have hii : ¬ ((i : Int) < (c.elems.length : Int)) := by omega
      have hE : Hid (R = -1) := Lib.hid (by rw [hR.out]; exact findEl_no fun j hj => HP.out j hj (by omega))
      go_wp2
      go_ret
      exact ⟨congrArg (fun b => Ending.returned (Value.int .i64 b)) hE.out.symm, F⟩
def liveL (l : List El) : List El := l.filter fun x => !x.2.2.2.2
theorem live_step {l : List El} {i : Nat} {x : El} (h : i < l.length) (hx : Hid (x = l[i])) : liveL (l.take (i + 1)) = liveL (l.take i) ++ if x.2.2.2.2 = true then [] else [x] := by
  unfold liveL
  rw [List.take_succ_eq_append_getElem h, ← hx.out, List.filter_append]
  by_cases hv : x.2.2.2.2 = true <;> simp [hv]
theorem live_len (l : List El) : (liveL l).length ≤ l.length := List.length_filter_le _ _
set_option maxHeartbeats 1000000 in
set_option maxRecDepth 100000 in
theorem refLive_ok {w : World} {c : CellV} {ve vl vs : Value} (h : CellR w c ve vl vs) (hb : CellB c) :
    Calls Tryz.prog 93 #[cval c ve vl vs] w fun e w' => ∃ a n m, e = .returned (.slice a n m) ∧ Ow w' (Nw No w w') 59 eEl (.slice a n m) (liveL c.elems) ∧ Frm No w w' := by
  obtain ⟨he, hl, hs⟩ := h
  obtain ⟨ae, ce, rfl⟩ := he.sh
  obtain ⟨al, cl, rfl⟩ := hl.sh
  obtain ⟨at_, cs, rfl⟩ := hs.sh
  clear he hs
  obtain ⟨hn, hc1, hc2, -⟩ := hl.facts
  unfold maxLen at hc2
  have hb1 : c.elems.length * 48 ≤ 140737488351232 := hb.l
  unfold cval
  have HE := Lib.hid hl
  clear hl hn hb
  go_enter Tryz.func93, Tryz.ntmps93
  go_wp2_with (fail)
  go_loopg [3, 4] (c.elems.length + 1) (fun g ov iv wr => ∃ (i : Nat) (ao : Option Addr) (no co : Nat), iv = .int .i64 i ∧ ov = .slice ao no co ∧ i ≤ c.elems.length ∧ g = c.elems.length - i + 1 ∧ Frm No w wr ∧
    wr.heap[w.heap.size]? = some (.cells #[.int .i64 c.kind, .bool c.set, .int .i64 c.st.1, .int .i64 c.st.2, .string c.value, .int .i64 c.num.1, .int .i64 c.num.2, .slice ae c.ents.length ce, .slice al c.elems.length cl, .slice at_ c.seen.length cs] 30 (0, 0)) ∧
    Ow wr (fun k => w.heap.size + 1 ≤ k) 59 eEl (.slice ao no co) (liveL (c.elems.take i)))
  case atStart => exact ⟨0, none, 0, 0, rfl, rfl, Nat.zero_le _, by omega, (Frm.refl No w).al _, heap_alloc_new w _, Ow.nil _ _ _ _ _⟩
  case round =>
    obtain ⟨i, ao, no, co, rfl, rfl, hi, hg, F, B, O⟩ := hrel
    have hG := Lib.hid hg
    clear hg
    have n1 := lt_of_block B
    have q8 : wr.cell? ⟨w.heap.size, 8, none⟩ = some (.slice al c.elems.length cl) := obj_cell B 8
    by_cases hlt : i < c.elems.length
    · obtain ⟨b, off, rfl, hbl, hc⟩ := (HE.out.no F).at hlt
      have e0 : wr.cell? ⟨b, off + i * 5, none⟩ = some (.int .i64 c.elems[i].1) := hc 0 _ rfl
      have e1 : wr.cell? ⟨b, off + i * 5 + 1, none⟩ = some (.int .i64 c.elems[i].2.1) := hc 1 _ rfl
      have e2 : wr.cell? ⟨b, off + i * 5 + 2, none⟩ = some (.int .i64 c.elems[i].2.2.1) := hc 2 _ rfl
      have e3 : wr.cell? ⟨b, off + i * 5 + 3, none⟩ = some (.string c.elems[i].2.2.2.1) := hc 3 _ rfl
      have e4 : wr.cell? ⟨b, off + i * 5 + 4, none⟩ = some (.bool c.elems[i].2.2.2.2) := hc 4 _ rfl
      clear hc
      obtain ⟨x, hx⟩ : ∃ x, Hid (x = c.elems[i]) := ⟨_, Lib.hid rfl⟩
      rw [← hx.out] at e0 e1 e2 e3 e4
      have HN := Lib.hid O.cap.1
      have hle : (liveL (c.elems.take i)).length ≤ i := Nat.le_trans (live_len _) (by rw [List.length_take]; omega)
      have hle' : no ≤ i := by rw [HN.out]; exact hle
      have hst := live_step hlt hx
      obtain ⟨x1, x2, x3, x4, x5⟩ := x
      rcases x5 with _ | _
      · rw [if_neg (by show ¬ (false = true); decide)] at hst
        have HST := Lib.hid hst
        clear hst
        go_wp2_with (at_builtin; refine wpList_ap _ rfl (.tmp 19) (.tmp 25) 27 27 rfl 59 _ 48 Tryz.underlying27 i_el rfl (O.al _) ((RdS.litg _ eEl (x1, x2, x3, x4, false) _ (g := wr.heap.size) rfl).src Tryz.underlying27) rfl rfl rfl ?c1 ?c2 ?_)
        case c1 => rw [← HN.out]; unfold maxLen; omega
        case c2 => rw [← HN.out]; omega
        intro a' c' w2 o2 f2
        have F2 : Frm No w w2 := (F.al _).then f2 fun k hk hh => by omega
        have B2 := f2.obj (al_old B) (by omega)
        go_wp2_with (fail)
        go_roundg (c.elems.length - (i + 1) + 1)
        case measure => have := hG.out; omega
        case rel => exact ⟨i + 1, a', _, c', by go_num, rfl, by omega, rfl, F2, B2, by rw [HST.out]; exact o2.mono fun k _ hh => by rcases hh with hh | hh; exact hh; have := hh.1; have := F.size; simp at *; omega⟩
      · rw [if_pos rfl, List.append_nil] at hst
        have HST := Lib.hid hst
        clear hst
        go_wp2_with (fail)
        go_roundg (c.elems.length - (i + 1) + 1)
        case measure => have := hG.out; omega
        case rel => exact ⟨i + 1, ao, no, co, by go_num, rfl, by omega, rfl, F, B, by rw [HST.out]; exact O⟩
    · have hii : ¬ ((i : Int) < (c.elems.length : Int)) := by omega
      have ht : c.elems.take i = c.elems := List.take_of_length_le (by omega)
      rw [ht] at O
      go_wp2_with (fail)
      go_ret
      exact ⟨ao, no, co, rfl, O.fin (by omega), F⟩
set_option maxHeartbeats 1000000 in
set_option maxRecDepth 100000 in
theorem refListValues_ok {w : World} {c : CellV} {ve vl vs : Value} (h : CellR w c ve vl vs) (hb : CellB c) (hk : c.kind = 3) :
    Calls Tryz.prog 46 #[cval c ve vl vs] w (VP (valsL c.elems) 0 w) := by
  have HR := Lib.hid h
  obtain ⟨he, hl, hs⟩ := h
  obtain ⟨ae, ce, rfl⟩ := he.sh
  obtain ⟨al, cl, rfl⟩ := hl.sh
  obtain ⟨at_, cs, rfl⟩ := hs.sh
  have hbl := hb.l
  have hcv : cval c (.slice ae c.ents.length ce) (.slice al c.elems.length cl) (.slice at_ c.seen.length cs) = .agg #[.int .i64 3, .bool c.set, .int .i64 c.st.1, .int .i64 c.st.2, .string c.value, .int .i64 c.num.1, .int .i64 c.num.2, .slice ae c.ents.length ce, .slice al c.elems.length cl, .slice at_ c.seen.length cs] := by unfold cval; rw [hk]
  rw [hcv]
  have HV := Lib.hid hcv
  have f0 : Frm No w (w.alloc (.cells #[.int .i64 3, .bool c.set, .int .i64 c.st.1, .int .i64 c.st.2, .string c.value, .int .i64 c.num.1, .int .i64 c.num.2, .slice ae c.ents.length ce, .slice al c.elems.length cl, .slice at_ c.seen.length cs] 30 (0, 0))) := (Frm.refl No w).al _
  have HK := refLive_ok (HR.out.no f0) hb
  rw [hcv] at HK
  have HK := Lib.hid HK
  have hfl : (liveL c.elems).length ≤ c.elems.length := live_len _
  unfold reachBytes at hbl
  clear he hl hs hb hk hcv HR
  go_enter Tryz.func46, Tryz.ntmps46
  go_wp2_with (fail)
  refine HK.out.mono ?_
  rintro e w1 ⟨a1, n1, c1, rfl, o1, f1⟩
  have F1 : Frm No w w1 := f0.trans f1
  clear HK f1 f0
  obtain ⟨L, hL⟩ : ∃ L, Hid (L = liveL c.elems) := ⟨_, Lib.hid rfl⟩
  rw [← hL.out] at o1 hfl
  have hn := o1.rd.facts
  have HN := Lib.hid hn.1
  have hnle : n1 ≤ c.elems.length := by omega
  have R1 := Lib.hid o1.rd
  clear o1 hn
  go_wp2_with (fail)
  go_loopg [5, 6] (n1 + 1) (fun g ov iv wr => ∃ (i : Nat) (ao : Option Addr) (co : Nat), iv = .int .i64 i ∧ ov = .slice ao i co ∧ i ≤ n1 ∧ g = n1 - i + 1 ∧ Frm No w1 wr ∧ Ow wr (fun k => w1.heap.size ≤ k) 9 eStr (.slice ao i co) (mapV (L.take i)))
  case atStart => exact ⟨0, none, 0, rfl, rfl, Nat.zero_le _, by omega, Frm.refl _ _, Ow.nil _ _ _ _ _⟩
  case round =>
    obtain ⟨i, ao, co, rfl, rfl, hi, hg, F, O⟩ := hrel
    have hG := Lib.hid hg
    clear hg
    by_cases hlt : i < n1
    · have l1 : i < L.length := by rw [← HN.out]; exact hlt
      obtain ⟨b, off, rfl, hbb, hc⟩ := (R1.out.no F).at l1
      have e3 : wr.cell? ⟨b, off + i * 5 + 3, none⟩ = some (.string L[i].2.2.2.1) := hc 3 _ rfl
      clear hc
      obtain ⟨x, hx⟩ : ∃ x, Hid (x = L[i]) := ⟨_, Lib.hid rfl⟩
      rw [← hx.out] at e3
      have hlen := O.cap.1
      have HLN := Lib.hid hlen
      clear hlen
      go_wp2_with (at_builtin; refine wpList_ap _ rfl (.tmp 18) (.tmp 24) 65 65 rfl 9 _ 16 Tryz.underlying65 i_str rfl (O.al _) ((RdS.litg _ eStr x.2.2.2.1 _ (g := wr.heap.size) (by simp)).src Tryz.underlying65) rfl rfl rfl ?c1 ?c2 ?_)
      case c1 => rw [← HLN.out]; unfold maxLen; omega
      case c2 => rw [← HLN.out]; omega
      intro a' c' w2 o2 f2
      have F2 : Frm No w1 w2 := (F.al _).then f2 fun k hk hh => by omega
      rw [← HLN.out] at o2
      go_wp2_with (fail)
      go_roundg (n1 - (i + 1) + 1)
      case measure => have := hG.out; omega
      case rel => exact ⟨i + 1, a', c', by go_num, by rw [← HLN.out], by omega, rfl, F2, by rw [valsL_step l1 hx]; exact o2.mono fun k _ hh => by rcases hh with hh | hh; exact hh; have := hh.1; have := F.size; simp at *; omega⟩
    · have hii : ¬ ((i : Int) < n1) := by omega
      obtain rfl : i = n1 := by omega
      go_wp2_with (fail)
      go_ret2
      have ht : L.take i = L := List.take_of_length_le (by rw [← HN.out]; omega)
      rw [ht] at O
      have hv : valsL c.elems = mapV L := by rw [hL.out]; rfl
      rw [hv]
      exact ⟨ao, i, co, rfl, O.fin F1.size, F1.trans F⟩
end Go.Proofs.YtofikfkgiblblaaGreatDoor
/- The reference's small ones: Less, within, PairMay, AddPair, KindOf. -/
namespace Go.Proofs.YtofikfkgiblblaaGreatDoor
open Go.RowKit Go.Lib Go.Tt Go.Shelf
set_option maxRecDepth 100000 in
theorem refLess_ok (a b : Dt) (w : World) : Calls Tryz.prog 119 #[.agg #[.int .i64 a.1, .int .i64 a.2], .agg #[.int .i64 b.1, .int .i64 b.2]] w fun e w' => e = .returned (.bool (dotLess a b)) ∧ Frm No w w' := by
  go_enter Tryz.func119, Tryz.ntmps119
  go_wp2
  all_goals go_ret
  all_goals exact ⟨congrArg (fun b => Ending.returned (Value.bool b)) (by unfold dotLess; first | exact dec_f (by omega) | exact dec_t (by omega) | exact dec_d (by omega)), ((Frm.refl No w).al _).al _⟩
set_option maxRecDepth 100000 in
theorem refWithin_ok (x m : Int) (h0 : 0 ≤ m) (h1 : m ≤ 4611686018427387904) (w : World) : Calls Tryz.prog 74 #[.int .i64 x, .int .i64 m] w fun e w' => e = .returned (.bool (decide (-m ≤ x ∧ x ≤ m))) ∧ w = w' := by
  have hn : IntKind.i64.wrap (-m) = -m := by rw [IntKind.wrap_i64]; omega
  by_cases hx : -m ≤ x
  · go_enter Tryz.func74, Tryz.ntmps74
    go_wp2
    all_goals go_ret
    all_goals exact ⟨congrArg (fun b => Ending.returned (Value.bool b)) (by first | exact dec_f (by omega) | exact dec_t (by omega) | exact dec_d (by omega)), rfl⟩
  · go_enter Tryz.func74, Tryz.ntmps74
    go_wp2
    all_goals go_ret
    all_goals exact ⟨congrArg (fun b => Ending.returned (Value.bool b)) (by symm; rw [decide_eq_false (show ¬ (-m ≤ x) by omega)]; rfl), rfl⟩
set_option maxRecDepth 100000 in
theorem refPairMay_ok (p : Int × Int) (w : World) : Calls Tryz.prog 42 #[.agg #[.int .i64 p.1, .int .i64 p.2]] w fun e w' => e = .returned (.bool (pairMay p)) ∧ Frm No w w' := by
  have W1 := Lib.hid (fun W => refWithin_ok p.1 4503599627370496 (by omega) (by omega) W)
  have W2 := Lib.hid (fun W => refWithin_ok p.2 4503599627370496 (by omega) (by omega) W)
  obtain ⟨B1, h1⟩ : ∃ B, Hid (B = decide (-4503599627370496 ≤ p.1 ∧ p.1 ≤ 4503599627370496)) := ⟨_, Lib.hid rfl⟩
  obtain ⟨B2, h2⟩ : ∃ B, Hid (B = decide (-4503599627370496 ≤ p.2 ∧ p.2 ≤ 4503599627370496)) := ⟨_, Lib.hid rfl⟩
  have hB : Hid (pairMay p = (B1 && B2)) := Lib.hid (by rw [h1.out, h2.out, ← Bool.decide_and]; rfl)
  rw [← h1.out] at W1
  rw [← h2.out] at W2
  rw [hB.out]
  rcases B1 with _ | _
  · go_enter Tryz.func42, Tryz.ntmps42
    go_wp2_with (fail)
    refine (W1.out _).mono ?_
    rintro e w1 ⟨rfl, rfl⟩
    go_wp2_with (fail)
    go_ret
    exact ⟨rfl, (Frm.refl No w).al _⟩
  · go_enter Tryz.func42, Tryz.ntmps42
    go_wp2_with (fail)
    refine (W1.out _).mono ?_
    rintro e w1 ⟨rfl, rfl⟩
    go_wp2_with (fail)
    refine (W2.out _).mono ?_
    rintro e w1 ⟨rfl, rfl⟩
    go_wp2_with (fail)
    go_ret
    exact ⟨rfl, (Frm.refl No w).al _⟩
theorem addPair_bad {a b : Int × Int} (h : pairMay a = false ∨ pairMay b = false ∨ pairMay (a.1 + b.1, a.2 + b.2) = false) : addPair a b = ((0, 0), 600) := by
  unfold addPair
  refine if_neg fun e => ?_
  rcases h with h | h | h
  · rw [e.1] at h; cases h
  · rw [e.2.1] at h; cases h
  · rw [e.2.2] at h; cases h
set_option maxHeartbeats 1000000 in
set_option maxRecDepth 100000 in
theorem refAddPair_ok (a b : Int × Int) (w : World) : Calls Tryz.prog 120 #[.agg #[.int .i64 a.1, .int .i64 a.2], .agg #[.int .i64 b.1, .int .i64 b.2]] w fun e w' => e = .returned (.tuple #[.agg #[.int .i64 (addPair a b).1.1, .int .i64 (addPair a b).1.2], .int .i64 (addPair a b).2]) ∧ Frm No w w' := by
  obtain ⟨R, hR⟩ : ∃ R, Hid (R = addPair a b) := ⟨_, Lib.hid rfl⟩
  rw [← hR.out]
  have W1 := Lib.hid (fun W => refPairMay_ok a W)
  have W2 := Lib.hid (fun W => refPairMay_ok b W)
  have W3 := Lib.hid (fun W => refPairMay_ok (a.1 + b.1, a.2 + b.2) W)
  have FX : Frm No w (((w.alloc (.cells #[.int .i64 a.1, .int .i64 a.2] 25 (0, 0))).alloc (.cells #[.int .i64 b.1, .int .i64 b.2] 25 (0, 0))).alloc (.cells #[.int .i64 0, .int .i64 0] 25 (0, 0))) := (((Frm.refl No w).al _).al _).al _
  have CA : (((w.alloc (.cells #[.int .i64 a.1, .int .i64 a.2] 25 (0, 0))).alloc (.cells #[.int .i64 b.1, .int .i64 b.2] 25 (0, 0))).alloc (.cells #[.int .i64 0, .int .i64 0] 25 (0, 0))).heap[w.heap.size]? = some (.cells #[.int .i64 a.1, .int .i64 a.2] 25 (0, 0)) := al_old (al_old (heap_alloc_new w _))
  have CB : (((w.alloc (.cells #[.int .i64 a.1, .int .i64 a.2] 25 (0, 0))).alloc (.cells #[.int .i64 b.1, .int .i64 b.2] 25 (0, 0))).alloc (.cells #[.int .i64 0, .int .i64 0] 25 (0, 0))).heap[w.heap.size + 1]? = some (.cells #[.int .i64 b.1, .int .i64 b.2] 25 (0, 0)) := al_old (al_at (by simp))
  have CR : (((w.alloc (.cells #[.int .i64 a.1, .int .i64 a.2] 25 (0, 0))).alloc (.cells #[.int .i64 b.1, .int .i64 b.2] 25 (0, 0))).alloc (.cells #[.int .i64 0, .int .i64 0] 25 (0, 0))).heap[w.heap.size + 1 + 1]? = some (.cells #[.int .i64 0, .int .i64 0] 25 (0, 0)) := al_at (by simp)
  rcases h1 : pairMay a with _ | _
  · rw [h1] at W1
    have e : R = ((0, 0), 600) := hR.out.trans (addPair_bad (.inl h1))
    subst e
    clear h1
    go_enter Tryz.func120, Tryz.ntmps120
    go_wp2_with (fail)
    revert FX CA CB CR
    generalize (((w.alloc (.cells #[.int .i64 a.1, .int .i64 a.2] 25 (0, 0))).alloc (.cells #[.int .i64 b.1, .int .i64 b.2] 25 (0, 0))).alloc (.cells #[.int .i64 0, .int .i64 0] 25 (0, 0))) = X
    intro FX CA CB CR
    refine (W1.out _).mono ?_
    rintro e w1 ⟨rfl, f1⟩
    replace CA := f1.obj CA id
    replace CB := f1.obj CB id
    replace CR := f1.obj CR id
    have a0 := obj_cell CA 0
    have a1 := obj_cell CA 1
    have b0 := obj_cell CB 0
    have b1 := obj_cell CB 1
    have r0 := obj_cell CR 0
    have r1 := obj_cell CR 1
    simp at a0 a1 b0 b1 r0 r1
    have hz := lt_of_block CR
    go_wp2_with (refine wpList_sto _ rfl (.tmp 4) (.tmp 15) 25 rfl CR (by kernel_rfl) (by rfl) (vs := [.int .i64 0, .int .i64 0]) (by intro u hu; simp only [List.mem_cons, List.not_mem_nil, or_false] at hu; rcases hu with rfl | rfl <;> rfl) rfl rfl ?_)
    intro w9 CR9 f9 z9
    clear a0 a1 b0 b1 r0 r1
    have r0 := obj_cell CR9 0
    have r1 := obj_cell CR9 1
    simp at r0 r1
    go_wp2_with (fail)
    refine bodyPost_ret (v := .tuple #[.agg #[.int .i64 0, .int .i64 0], .int .i64 600]) (by simp [results, Tryz.results120, go_sem, *]) rfl ?_
    exact ⟨rfl, (FX.trans f1).then f9 fun k hk e => by omega⟩
  rw [h1] at W1
  rcases h2 : pairMay b with _ | _
  · rw [h2] at W2
    have e : R = ((0, 0), 600) := hR.out.trans (addPair_bad (.inr (.inl h2)))
    subst e
    clear h1 h2
    go_enter Tryz.func120, Tryz.ntmps120
    go_wp2_with (fail)
    revert FX CA CB CR
    generalize (((w.alloc (.cells #[.int .i64 a.1, .int .i64 a.2] 25 (0, 0))).alloc (.cells #[.int .i64 b.1, .int .i64 b.2] 25 (0, 0))).alloc (.cells #[.int .i64 0, .int .i64 0] 25 (0, 0))) = X
    intro FX CA CB CR
    refine (W1.out _).mono ?_
    rintro e w1 ⟨rfl, f1⟩
    replace CA := f1.obj CA id
    replace CB := f1.obj CB id
    replace CR := f1.obj CR id
    have a0 := obj_cell CA 0
    have a1 := obj_cell CA 1
    have b0 := obj_cell CB 0
    have b1 := obj_cell CB 1
    have r0 := obj_cell CR 0
    have r1 := obj_cell CR 1
    simp at a0 a1 b0 b1 r0 r1
    have hz := lt_of_block CR
    go_wp2_with (fail)
    refine (W2.out _).mono ?_
    rintro e w2 ⟨rfl, f2⟩
    clear a0 a1 b0 b1 r0 r1 hz
    replace CA := f2.obj CA id
    replace CB := f2.obj CB id
    replace CR := f2.obj CR id
    have a0 := obj_cell CA 0
    have a1 := obj_cell CA 1
    have b0 := obj_cell CB 0
    have b1 := obj_cell CB 1
    have r0 := obj_cell CR 0
    have r1 := obj_cell CR 1
    simp at a0 a1 b0 b1 r0 r1
    have hz := lt_of_block CR
    go_wp2_with (refine wpList_sto _ rfl (.tmp 4) (.tmp 15) 25 rfl CR (by kernel_rfl) (by rfl) (vs := [.int .i64 0, .int .i64 0]) (by intro u hu; simp only [List.mem_cons, List.not_mem_nil, or_false] at hu; rcases hu with rfl | rfl <;> rfl) rfl rfl ?_)
    intro w9 CR9 f9 z9
    clear a0 a1 b0 b1 r0 r1
    have r0 := obj_cell CR9 0
    have r1 := obj_cell CR9 1
    simp at r0 r1
    go_wp2_with (fail)
    refine bodyPost_ret (v := .tuple #[.agg #[.int .i64 0, .int .i64 0], .int .i64 600]) (by simp [results, Tryz.results120, go_sem, *]) rfl ?_
    exact ⟨rfl, ((FX.trans f1).trans f2).then f9 fun k hk e => by omega⟩
  rw [h2] at W2
  have ha := of_decide_eq_true h1
  have hb := of_decide_eq_true h2
  rcases h3 : pairMay (a.1 + b.1, a.2 + b.2) with _ | _
  · rw [h3] at W3
    have e : R = ((0, 0), 600) := hR.out.trans (addPair_bad (.inr (.inr h3)))
    subst e
    clear h1 h2 h3
    go_enter Tryz.func120, Tryz.ntmps120
    go_wp2_with (fail)
    revert FX CA CB CR
    generalize (((w.alloc (.cells #[.int .i64 a.1, .int .i64 a.2] 25 (0, 0))).alloc (.cells #[.int .i64 b.1, .int .i64 b.2] 25 (0, 0))).alloc (.cells #[.int .i64 0, .int .i64 0] 25 (0, 0))) = X
    intro FX CA CB CR
    refine (W1.out _).mono ?_
    rintro e w1 ⟨rfl, f1⟩
    replace CA := f1.obj CA id
    replace CB := f1.obj CB id
    replace CR := f1.obj CR id
    have a0 := obj_cell CA 0
    have a1 := obj_cell CA 1
    have b0 := obj_cell CB 0
    have b1 := obj_cell CB 1
    have r0 := obj_cell CR 0
    have r1 := obj_cell CR 1
    simp at a0 a1 b0 b1 r0 r1
    have hz := lt_of_block CR
    go_wp2_with (fail)
    refine (W2.out _).mono ?_
    rintro e w2 ⟨rfl, f2⟩
    clear a0 a1 b0 b1 r0 r1 hz
    replace CA := f2.obj CA id
    replace CB := f2.obj CB id
    replace CR := f2.obj CR id
    have a0 := obj_cell CA 0
    have a1 := obj_cell CA 1
    have b0 := obj_cell CB 0
    have b1 := obj_cell CB 1
    have r0 := obj_cell CR 0
    have r1 := obj_cell CR 1
    simp at a0 a1 b0 b1 r0 r1
    have hz := lt_of_block CR
    go_wp2_with (fail)
    have f3 := (Frm.refl No w2).al (.cells #[.int .i64 (a.1 + b.1), .int .i64 (a.2 + b.2)] 25 (0, 0))
    refine (W3.out _).mono ?_
    rintro e w4 ⟨rfl, f4⟩
    have CC := f4.obj (heap_alloc_new w2 (.cells #[.int .i64 (a.1 + b.1), .int .i64 (a.2 + b.2)] 25 (0, 0))) id
    clear a0 a1 b0 b1 r0 r1 hz
    replace CA := f3.obj CA id
    replace CB := f3.obj CB id
    replace CR := f3.obj CR id
    replace CA := f4.obj CA id
    replace CB := f4.obj CB id
    replace CR := f4.obj CR id
    have a0 := obj_cell CA 0
    have a1 := obj_cell CA 1
    have b0 := obj_cell CB 0
    have b1 := obj_cell CB 1
    have r0 := obj_cell CR 0
    have r1 := obj_cell CR 1
    simp at a0 a1 b0 b1 r0 r1
    have hz := lt_of_block CR
    go_wp2_with (refine wpList_sto _ rfl (.tmp 4) (.tmp 30) 25 rfl CR (by kernel_rfl) (by rfl) (vs := [.int .i64 0, .int .i64 0]) (by intro u hu; simp only [List.mem_cons, List.not_mem_nil, or_false] at hu; rcases hu with rfl | rfl <;> rfl) rfl rfl ?_)
    intro w9 CR9 f9 z9
    clear a0 a1 b0 b1 r0 r1
    have r0 := obj_cell CR9 0
    have r1 := obj_cell CR9 1
    simp at r0 r1
    go_wp2_with (fail)
    refine bodyPost_ret (v := .tuple #[.agg #[.int .i64 0, .int .i64 0], .int .i64 600]) (by simp [results, Tryz.results120, go_sem, *]) rfl ?_
    exact ⟨rfl, ((((FX.trans f1).trans f2).trans f3).trans f4).then f9 fun k hk e => by omega⟩
  · rw [h3] at W3
    have e : R = ((a.1 + b.1, a.2 + b.2), 0) := hR.out.trans (if_pos ⟨h1, h2, h3⟩)
    subst e
    clear h1 h2 h3
    go_enter Tryz.func120, Tryz.ntmps120
    go_wp2_with (fail)
    revert FX CA CB CR
    generalize (((w.alloc (.cells #[.int .i64 a.1, .int .i64 a.2] 25 (0, 0))).alloc (.cells #[.int .i64 b.1, .int .i64 b.2] 25 (0, 0))).alloc (.cells #[.int .i64 0, .int .i64 0] 25 (0, 0))) = X
    intro FX CA CB CR
    refine (W1.out _).mono ?_
    rintro e w1 ⟨rfl, f1⟩
    replace CA := f1.obj CA id
    replace CB := f1.obj CB id
    replace CR := f1.obj CR id
    have a0 := obj_cell CA 0
    have a1 := obj_cell CA 1
    have b0 := obj_cell CB 0
    have b1 := obj_cell CB 1
    have r0 := obj_cell CR 0
    have r1 := obj_cell CR 1
    simp at a0 a1 b0 b1 r0 r1
    have hz := lt_of_block CR
    go_wp2_with (fail)
    refine (W2.out _).mono ?_
    rintro e w2 ⟨rfl, f2⟩
    clear a0 a1 b0 b1 r0 r1 hz
    replace CA := f2.obj CA id
    replace CB := f2.obj CB id
    replace CR := f2.obj CR id
    have a0 := obj_cell CA 0
    have a1 := obj_cell CA 1
    have b0 := obj_cell CB 0
    have b1 := obj_cell CB 1
    have r0 := obj_cell CR 0
    have r1 := obj_cell CR 1
    simp at a0 a1 b0 b1 r0 r1
    have hz := lt_of_block CR
    go_wp2_with (fail)
    have f3 := (Frm.refl No w2).al (.cells #[.int .i64 (a.1 + b.1), .int .i64 (a.2 + b.2)] 25 (0, 0))
    refine (W3.out _).mono ?_
    rintro e w4 ⟨rfl, f4⟩
    have CC := f4.obj (heap_alloc_new w2 (.cells #[.int .i64 (a.1 + b.1), .int .i64 (a.2 + b.2)] 25 (0, 0))) id
    clear a0 a1 b0 b1 r0 r1 hz
    replace CA := f3.obj CA id
    replace CB := f3.obj CB id
    replace CR := f3.obj CR id
    replace CA := f4.obj CA id
    replace CB := f4.obj CB id
    replace CR := f4.obj CR id
    have a0 := obj_cell CA 0
    have a1 := obj_cell CA 1
    have b0 := obj_cell CB 0
    have b1 := obj_cell CB 1
    have r0 := obj_cell CR 0
    have r1 := obj_cell CR 1
    simp at a0 a1 b0 b1 r0 r1
    have hz := lt_of_block CR
    have c0 := obj_cell CC 0
    have c1 := obj_cell CC 1
    simp at c0 c1
    have hzc := lt_of_block CC
    go_wp2_with (refine wpList_sto _ rfl (.tmp 4) (.tmp 31) 25 rfl CR (by kernel_rfl) (by rfl) (vs := [.int .i64 (a.1 + b.1), .int .i64 (a.2 + b.2)]) (by intro u hu; simp only [List.mem_cons, List.not_mem_nil, or_false] at hu; rcases hu with rfl | rfl <;> rfl) rfl rfl ?_)
    intro w9 CR9 f9 z9
    clear a0 a1 b0 b1 r0 r1
    have r0 := obj_cell CR9 0
    have r1 := obj_cell CR9 1
    simp at r0 r1
    go_wp2_with (fail)
    refine bodyPost_ret (v := .tuple #[.agg #[.int .i64 (a.1 + b.1), .int .i64 (a.2 + b.2)], .int .i64 0]) (by simp [results, Tryz.results120, go_sem, *]) rfl ?_
    exact ⟨rfl, ((((FX.trans f1).trans f2).trans f3).trans f4).then f9 fun k hk e => by omega⟩
theorem refKindOf_ok {w : World} (o : OpV) (vd vo : Value) :
    Calls Tryz.prog 31 #[opval o vd vo] w fun e w' => e = .returned (.int .i64 (kindOf o)) ∧ Frm No w w' := by
  obtain ⟨B, hBq⟩ : ∃ B : Int, Hid (B = kindOf o) := ⟨_, Lib.hid rfl⟩
  rw [← hBq.out]
  obtain ⟨k, hk⟩ : ∃ k, Hid (k = o.kind) := ⟨_, Lib.hid rfl⟩
  unfold opval opCells
  rw [← hk.out]
  have hcs : k = 0 ∨ k = 1 ∨ k = 2 ∨ k = 3 ∨ k = 4 ∨ k = 5 ∨ (¬ k = 0 ∧ ¬ k = 1 ∧ ¬ k = 2 ∧ ¬ k = 3 ∧ ¬ k = 4 ∧ ¬ k = 5) := by omega
  rcases hcs with rfl | rfl | rfl | rfl | rfl | rfl | ⟨k0, k1, k2, k3, k4, k5⟩
  all_goals
    go_enter Tryz.func31, Tryz.ntmps31
    go_wp2_with (fail)
    go_ret
    refine ⟨congrArg (fun b => Ending.returned (Value.int .i64 b)) ?_, (Frm.refl No w).al _⟩
    have hk := hk.out
    rw [hBq.out]
    unfold kindOf
    repeat' split
    all_goals omega
end Go.Proofs.YtofikfkgiblblaaGreatDoor
/- The reference: may a name be? -/
namespace Go.Proofs.YtofikfkgiblblaaGreatDoor
open Go.RowKit Go.Lib Go.Tt
set_option maxHeartbeats 4000000 in
set_option maxRecDepth 100000 in
theorem refName_ok (s : ByteArray) (w : World) (hs : s.size ≤ 9223372036854775807) : Calls Tryz.prog 73 #[.string s] w fun e w' => e = .returned (.bool (nameMay s)) ∧ w = w' := by
  obtain ⟨B, hB⟩ : ∃ B : Bool, Hid (B = nameMay s) := ⟨_, Lib.hid rfl⟩
  rw [← hB.out]
  go_enter Tryz.func73, Tryz.ntmps73
  go_wp2_with (fail)
  go_loopg [3] (s.size + 1) (fun g iv wr => ∃ i : Nat, iv = .int .i64 i ∧ wr = w ∧ i ≤ s.size ∧ g = s.size - i + 1 ∧ ∀ j, j < i → (firstB (s.data.toList.getD j 0).toNat = true ∨ 0 < j ∧ digB (s.data.toList.getD j 0).toNat = true))
  case atStart => exact ⟨0, rfl, rfl, Nat.zero_le _, by omega, fun j hj => by omega⟩
  case round =>
    obtain ⟨i, rfl, rfl, hi, hg, hp⟩ := hrel
    have hG := Lib.hid hg
    have hP := Lib.hid hp
    clear hg hp
    by_cases hlt : i < s.size
    · have hl : i < s.data.toList.length := by simpa using hlt
      have HGD := Lib.hid (bget s hlt)
      have hcs : (0 ≤ (s[i].toNat : Int) ∧ (s[i].toNat : Int) ≤ 47) ∨ (48 ≤ (s[i].toNat : Int) ∧ (s[i].toNat : Int) ≤ 57) ∨ (58 ≤ (s[i].toNat : Int) ∧ (s[i].toNat : Int) ≤ 64) ∨ (65 ≤ (s[i].toNat : Int) ∧ (s[i].toNat : Int) ≤ 90) ∨ (91 ≤ (s[i].toNat : Int) ∧ (s[i].toNat : Int) ≤ 94) ∨ (95 ≤ (s[i].toNat : Int) ∧ (s[i].toNat : Int) ≤ 95) ∨ (96 ≤ (s[i].toNat : Int) ∧ (s[i].toNat : Int) ≤ 96) ∨ (97 ≤ (s[i].toNat : Int) ∧ (s[i].toNat : Int) ≤ 122) ∨ (123 ≤ (s[i].toNat : Int) ∧ (s[i].toNat : Int) ≤ 255) := by have := s[i].toNat_lt; omega
      rcases hcs with hr | hr | hr | hr | hr | hr | hr | hr | hr
      · obtain ⟨r1, r2⟩ := hr
        have m0 : ¬ (65 ≤ (s[i].toNat : Int)) := by omega
        have m1 : ((s[i].toNat : Int) ≤ 90) := by omega
        have m2 : ¬ (97 ≤ (s[i].toNat : Int)) := by omega
        have m3 : ((s[i].toNat : Int) ≤ 122) := by omega
        have m4 : ¬ (48 ≤ (s[i].toNat : Int)) := by omega
        have m5 : ((s[i].toNat : Int) ≤ 57) := by omega
        have m6 : ((s[i].toNat : Int) == 95) = false := by simp; omega
        by_cases hi0 : 0 < i
        · have hi1 : (0 : Int) < (i : Int) := by omega
          clear hi0
          have hv : Hid (B = false) := Lib.hid (by
            rw [hB.out]
            refine decide_eq_false fun h => ?_
            have h1 := h.2 i hl
            rw [HGD.out] at h1
            rcases h1 with h1 | h1
            · have := of_decide_eq_true h1
              omega
            · have := of_decide_eq_true h1
              omega)
          go_wp2_with (fail)
          go_ret
          exact ⟨congrArg (fun b => Ending.returned (Value.bool b)) hv.out.symm, rfl⟩
        · have hi1 : ¬ (0 : Int) < (i : Int) := by omega
          clear hi0
          have hv : Hid (B = false) := Lib.hid (by
            rw [hB.out]
            refine decide_eq_false fun h => ?_
            have h1 := h.2 i hl
            rw [HGD.out] at h1
            rcases h1 with h1 | h1
            · have := of_decide_eq_true h1
              omega
            · have := of_decide_eq_true h1
              omega)
          go_wp2_with (fail)
          go_ret
          exact ⟨congrArg (fun b => Ending.returned (Value.bool b)) hv.out.symm, rfl⟩
      · obtain ⟨r1, r2⟩ := hr
        have m0 : ¬ (65 ≤ (s[i].toNat : Int)) := by omega
        have m1 : ((s[i].toNat : Int) ≤ 90) := by omega
        have m2 : ¬ (97 ≤ (s[i].toNat : Int)) := by omega
        have m3 : ((s[i].toNat : Int) ≤ 122) := by omega
        have m4 : (48 ≤ (s[i].toNat : Int)) := by omega
        have m5 : ((s[i].toNat : Int) ≤ 57) := by omega
        have m6 : ((s[i].toNat : Int) == 95) = false := by simp; omega
        by_cases hi0 : 0 < i
        · have hi1 : (0 : Int) < (i : Int) := by omega
          have hq : Hid ((firstB (s[i].toNat) = true ∨ 0 < i ∧ digB (s[i].toNat) = true)) := Lib.hid (.inr ⟨hi0, decide_eq_true (by omega)⟩)
          go_wp2_with (fail)
          go_roundg (s.size - (i + 1) + 1)
          case measure => have := hG.out; omega
          case rel =>
            refine ⟨i + 1, by go_num, rfl, by omega, rfl, fun j hj => ?_⟩
            rcases Nat.lt_or_ge j i with h | h
            · exact hP.out j h
            · obtain rfl : j = i := by omega
              rw [HGD.out]
              exact hq.out
        · have hi1 : ¬ (0 : Int) < (i : Int) := by omega
          have HI0 := Lib.hid hi0
          clear hi0
          have hv : Hid (B = false) := Lib.hid (by
            rw [hB.out]
            refine decide_eq_false fun h => ?_
            have hz : i = 0 := by have := HI0.out; omega
            have h1 : firstB (s.data.toList.getD i 0).toNat = true := by rw [hz]; exact h.1.2.2
            rw [HGD.out] at h1
            have := of_decide_eq_true h1
            omega)
          go_wp2_with (fail)
          go_ret
          exact ⟨congrArg (fun b => Ending.returned (Value.bool b)) hv.out.symm, rfl⟩
      · obtain ⟨r1, r2⟩ := hr
        have m0 : ¬ (65 ≤ (s[i].toNat : Int)) := by omega
        have m1 : ((s[i].toNat : Int) ≤ 90) := by omega
        have m2 : ¬ (97 ≤ (s[i].toNat : Int)) := by omega
        have m3 : ((s[i].toNat : Int) ≤ 122) := by omega
        have m4 : (48 ≤ (s[i].toNat : Int)) := by omega
        have m5 : ¬ ((s[i].toNat : Int) ≤ 57) := by omega
        have m6 : ((s[i].toNat : Int) == 95) = false := by simp; omega
        by_cases hi0 : 0 < i
        · have hi1 : (0 : Int) < (i : Int) := by omega
          clear hi0
          have hv : Hid (B = false) := Lib.hid (by
            rw [hB.out]
            refine decide_eq_false fun h => ?_
            have h1 := h.2 i hl
            rw [HGD.out] at h1
            rcases h1 with h1 | h1
            · have := of_decide_eq_true h1
              omega
            · have := of_decide_eq_true h1
              omega)
          go_wp2_with (fail)
          go_ret
          exact ⟨congrArg (fun b => Ending.returned (Value.bool b)) hv.out.symm, rfl⟩
        · have hi1 : ¬ (0 : Int) < (i : Int) := by omega
          clear hi0
          have hv : Hid (B = false) := Lib.hid (by
            rw [hB.out]
            refine decide_eq_false fun h => ?_
            have h1 := h.2 i hl
            rw [HGD.out] at h1
            rcases h1 with h1 | h1
            · have := of_decide_eq_true h1
              omega
            · have := of_decide_eq_true h1
              omega)
          go_wp2_with (fail)
          go_ret
          exact ⟨congrArg (fun b => Ending.returned (Value.bool b)) hv.out.symm, rfl⟩
      · obtain ⟨r1, r2⟩ := hr
        have m0 : (65 ≤ (s[i].toNat : Int)) := by omega
        have m1 : ((s[i].toNat : Int) ≤ 90) := by omega
        have m2 : ¬ (97 ≤ (s[i].toNat : Int)) := by omega
        have m3 : ((s[i].toNat : Int) ≤ 122) := by omega
        have m4 : (48 ≤ (s[i].toNat : Int)) := by omega
        have m5 : ¬ ((s[i].toNat : Int) ≤ 57) := by omega
        have m6 : ((s[i].toNat : Int) == 95) = false := by simp; omega
        have hq : Hid ((firstB (s[i].toNat) = true ∨ 0 < i ∧ digB (s[i].toNat) = true)) := Lib.hid (.inl (decide_eq_true (by omega)))
        go_wp2_with (fail)
        go_roundg (s.size - (i + 1) + 1)
        case measure => have := hG.out; omega
        case rel =>
          refine ⟨i + 1, by go_num, rfl, by omega, rfl, fun j hj => ?_⟩
          rcases Nat.lt_or_ge j i with h | h
          · exact hP.out j h
          · obtain rfl : j = i := by omega
            rw [HGD.out]
            exact hq.out
      · obtain ⟨r1, r2⟩ := hr
        have m0 : (65 ≤ (s[i].toNat : Int)) := by omega
        have m1 : ¬ ((s[i].toNat : Int) ≤ 90) := by omega
        have m2 : ¬ (97 ≤ (s[i].toNat : Int)) := by omega
        have m3 : ((s[i].toNat : Int) ≤ 122) := by omega
        have m4 : (48 ≤ (s[i].toNat : Int)) := by omega
        have m5 : ¬ ((s[i].toNat : Int) ≤ 57) := by omega
        have m6 : ((s[i].toNat : Int) == 95) = false := by simp; omega
        by_cases hi0 : 0 < i
        · have hi1 : (0 : Int) < (i : Int) := by omega
          clear hi0
          have hv : Hid (B = false) := Lib.hid (by
            rw [hB.out]
            refine decide_eq_false fun h => ?_
            have h1 := h.2 i hl
            rw [HGD.out] at h1
            rcases h1 with h1 | h1
            · have := of_decide_eq_true h1
              omega
            · have := of_decide_eq_true h1
              omega)
          go_wp2_with (fail)
          go_ret
          exact ⟨congrArg (fun b => Ending.returned (Value.bool b)) hv.out.symm, rfl⟩
        · have hi1 : ¬ (0 : Int) < (i : Int) := by omega
          clear hi0
          have hv : Hid (B = false) := Lib.hid (by
            rw [hB.out]
            refine decide_eq_false fun h => ?_
            have h1 := h.2 i hl
            rw [HGD.out] at h1
            rcases h1 with h1 | h1
            · have := of_decide_eq_true h1
              omega
            · have := of_decide_eq_true h1
              omega)
          go_wp2_with (fail)
          go_ret
          exact ⟨congrArg (fun b => Ending.returned (Value.bool b)) hv.out.symm, rfl⟩
      · obtain ⟨r1, r2⟩ := hr
        have m0 : (65 ≤ (s[i].toNat : Int)) := by omega
        have m1 : ¬ ((s[i].toNat : Int) ≤ 90) := by omega
        have m2 : ¬ (97 ≤ (s[i].toNat : Int)) := by omega
        have m3 : ((s[i].toNat : Int) ≤ 122) := by omega
        have m4 : (48 ≤ (s[i].toNat : Int)) := by omega
        have m5 : ¬ ((s[i].toNat : Int) ≤ 57) := by omega
        have m6 : ((s[i].toNat : Int) == 95) = true := by simp; omega
        have hq : Hid ((firstB (s[i].toNat) = true ∨ 0 < i ∧ digB (s[i].toNat) = true)) := Lib.hid (.inl (decide_eq_true (by omega)))
        go_wp2_with (fail)
        go_roundg (s.size - (i + 1) + 1)
        case measure => have := hG.out; omega
        case rel =>
          refine ⟨i + 1, by go_num, rfl, by omega, rfl, fun j hj => ?_⟩
          rcases Nat.lt_or_ge j i with h | h
          · exact hP.out j h
          · obtain rfl : j = i := by omega
            rw [HGD.out]
            exact hq.out
      · obtain ⟨r1, r2⟩ := hr
        have m0 : (65 ≤ (s[i].toNat : Int)) := by omega
        have m1 : ¬ ((s[i].toNat : Int) ≤ 90) := by omega
        have m2 : ¬ (97 ≤ (s[i].toNat : Int)) := by omega
        have m3 : ((s[i].toNat : Int) ≤ 122) := by omega
        have m4 : (48 ≤ (s[i].toNat : Int)) := by omega
        have m5 : ¬ ((s[i].toNat : Int) ≤ 57) := by omega
        have m6 : ((s[i].toNat : Int) == 95) = false := by simp; omega
        by_cases hi0 : 0 < i
        · have hi1 : (0 : Int) < (i : Int) := by omega
          clear hi0
          have hv : Hid (B = false) := Lib.hid (by
            rw [hB.out]
            refine decide_eq_false fun h => ?_
            have h1 := h.2 i hl
            rw [HGD.out] at h1
            rcases h1 with h1 | h1
            · have := of_decide_eq_true h1
              omega
            · have := of_decide_eq_true h1
              omega)
          go_wp2_with (fail)
          go_ret
          exact ⟨congrArg (fun b => Ending.returned (Value.bool b)) hv.out.symm, rfl⟩
        · have hi1 : ¬ (0 : Int) < (i : Int) := by omega
          clear hi0
          have hv : Hid (B = false) := Lib.hid (by
            rw [hB.out]
            refine decide_eq_false fun h => ?_
            have h1 := h.2 i hl
            rw [HGD.out] at h1
            rcases h1 with h1 | h1
            · have := of_decide_eq_true h1
              omega
            · have := of_decide_eq_true h1
              omega)
          go_wp2_with (fail)
          go_ret
          exact ⟨congrArg (fun b => Ending.returned (Value.bool b)) hv.out.symm, rfl⟩
      · obtain ⟨r1, r2⟩ := hr
        have m0 : (65 ≤ (s[i].toNat : Int)) := by omega
        have m1 : ¬ ((s[i].toNat : Int) ≤ 90) := by omega
        have m2 : (97 ≤ (s[i].toNat : Int)) := by omega
        have m3 : ((s[i].toNat : Int) ≤ 122) := by omega
        have m4 : (48 ≤ (s[i].toNat : Int)) := by omega
        have m5 : ¬ ((s[i].toNat : Int) ≤ 57) := by omega
        have m6 : ((s[i].toNat : Int) == 95) = false := by simp; omega
        have hq : Hid ((firstB (s[i].toNat) = true ∨ 0 < i ∧ digB (s[i].toNat) = true)) := Lib.hid (.inl (decide_eq_true (by omega)))
        go_wp2_with (fail)
        go_roundg (s.size - (i + 1) + 1)
        case measure => have := hG.out; omega
        case rel =>
          refine ⟨i + 1, by go_num, rfl, by omega, rfl, fun j hj => ?_⟩
          rcases Nat.lt_or_ge j i with h | h
          · exact hP.out j h
          · obtain rfl : j = i := by omega
            rw [HGD.out]
            exact hq.out
      · obtain ⟨r1, r2⟩ := hr
        have m0 : (65 ≤ (s[i].toNat : Int)) := by omega
        have m1 : ¬ ((s[i].toNat : Int) ≤ 90) := by omega
        have m2 : (97 ≤ (s[i].toNat : Int)) := by omega
        have m3 : ¬ ((s[i].toNat : Int) ≤ 122) := by omega
        have m4 : (48 ≤ (s[i].toNat : Int)) := by omega
        have m5 : ¬ ((s[i].toNat : Int) ≤ 57) := by omega
        have m6 : ((s[i].toNat : Int) == 95) = false := by simp; omega
        by_cases hi0 : 0 < i
        · have hi1 : (0 : Int) < (i : Int) := by omega
          clear hi0
          have hv : Hid (B = false) := Lib.hid (by
            rw [hB.out]
            refine decide_eq_false fun h => ?_
            have h1 := h.2 i hl
            rw [HGD.out] at h1
            rcases h1 with h1 | h1
            · have := of_decide_eq_true h1
              omega
            · have := of_decide_eq_true h1
              omega)
          go_wp2_with (fail)
          go_ret
          exact ⟨congrArg (fun b => Ending.returned (Value.bool b)) hv.out.symm, rfl⟩
        · have hi1 : ¬ (0 : Int) < (i : Int) := by omega
          clear hi0
          have hv : Hid (B = false) := Lib.hid (by
            rw [hB.out]
            refine decide_eq_false fun h => ?_
            have h1 := h.2 i hl
            rw [HGD.out] at h1
            rcases h1 with h1 | h1
            · have := of_decide_eq_true h1
              omega
            · have := of_decide_eq_true h1
              omega)
          go_wp2_with (fail)
          go_ret
          exact ⟨congrArg (fun b => Ending.returned (Value.bool b)) hv.out.symm, rfl⟩
    · have hii : ¬ ((i : Int) < s.size) := by omega
      have hin : i = s.size := by omega
      have HIN := Lib.hid hin
      clear hin
      by_cases h0 : s.size = 0
      · have e : s = ⟨#[]⟩ := by
          have : s.data = #[] := Array.eq_empty_of_size_eq_zero h0
          exact ByteArray.ext this
        have hv : Hid (B = false) := Lib.hid (by rw [hB.out]; exact decide_eq_false fun h => by have := h.1.1; omega)
        clear HIN h0 hs hlt hi
        subst e
        go_wp2_with (fail)
        go_ret
        exact ⟨congrArg (fun b => Ending.returned (Value.bool b)) hv.out.symm, rfl⟩
      have hpos : 0 < s.size := by omega
      have hne : (s.toList.isEmpty) = false := by
        rw [ByteArray.toList_eq]
        cases h : s.data.toList with
        | nil => have : s.data.toList.length = 0 := by rw [h]; rfl
                 have e : s.data.toList.length = s.size := Array.length_toList
                 omega
        | cons a b => rfl
      have e : s.data.toList.length = s.size := Array.length_toList
      by_cases h32 : s.size ≤ 32
      · have h33 : (s.size : Int) ≤ 32 := by omega
        have hv : Hid (B = true) := Lib.hid (by
          rw [hB.out]
          have hh := HIN.out
          refine decide_eq_true ⟨⟨hpos, h32, ?_⟩, fun j hj => ?_⟩
          · rcases hP.out 0 (by omega) with h | h
            · exact h
            · omega
          · rcases hP.out j (by omega) with h | h
            · exact .inl h
            · exact .inr h.2)
        clear e h0 hlt hi
        go_wp2_with (fail)
        go_ret
        exact ⟨congrArg (fun b => Ending.returned (Value.bool b)) hv.out.symm, rfl⟩
      · have h33 : ¬ (s.size : Int) ≤ 32 := by omega
        have hv : Hid (B = false) := Lib.hid (by rw [hB.out]; exact decide_eq_false fun h => h32 h.1.2.1)
        clear e h0 hlt hi h32
        go_wp2_with (fail)
        go_ret
        exact ⟨congrArg (fun b => Ending.returned (Value.bool b)) hv.out.symm, rfl⟩
end Go.Proofs.YtofikfkgiblblaaGreatDoor
/- The reference: may a drop's dots be? -/
namespace Go.Proofs.YtofikfkgiblblaaGreatDoor
open Go.RowKit Go.Lib Go.Tt
set_option maxHeartbeats 4000000 in
set_option maxRecDepth 100000 in
theorem refDots_ok' {w : World} {o : OpV} {vd vo : Value} (h : OpR w o vd vo) :
    Calls Tryz.prog 75 #[opval o vd vo] w fun e w' => e = .returned (.bool (dotsMay o.dots o.deps)) ∧ Frm No w w' := by
  obtain ⟨hd, hs⟩ := h
  obtain ⟨ad, cd, rfl⟩ := hd.sh
  obtain ⟨ao, co, rfl⟩ := hs.sh
  have hlm : o.dots.length ≤ 9223372036854775807 := by have h := hs.facts; have := h.2.1; have := h.2.2.1; unfold maxLen at *; omega
  obtain ⟨B, hBq⟩ : ∃ B : Bool, Hid (B = dotsMay o.dots o.deps) := ⟨_, Lib.hid rfl⟩
  rw [← hBq.out]
  have HE := Lib.hid hs
  have HS := Lib.hid hd
  clear hd hs
  unfold opval opCells
  go_enter Tryz.func75, Tryz.ntmps75
  go_wp2_with (fail)
  go_loopg [3] (o.dots.length + 1) (fun g iv wr => ∃ i : Nat, iv = .int .i64 i ∧ Frm No w wr ∧ i ≤ o.dots.length ∧ g = o.dots.length - i + 1 ∧ wr.heap[w.heap.size]? = some (.cells #[.int .i64 o.dot.1, .int .i64 o.dot.2, .int .i64 o.time, .slice ad o.deps.length cd, .int .i64 o.kind, .string o.type, .string o.id, .string o.field, .string o.value, .int .i64 o.num.1, .int .i64 o.num.2, .int .i64 o.ref.1, .int .i64 o.ref.2, .slice ao o.dots.length co] 35 (0, 0)) ∧ dotsRow o.deps o.dots i)
  case atStart => exact ⟨0, rfl, (Frm.refl _ _).al _, Nat.zero_le _, by omega, heap_alloc_new w _, fun j hj => by omega⟩
  case round =>
    obtain ⟨i, rfl, F, hi, hg, Bk, hp⟩ := hrel
    have hG := Lib.hid hg
    have hP := Lib.hid hp
    clear hg hp
    have nb' := lt_of_block Bk
    by_cases hlt : i < o.dots.length
    · obtain ⟨b, off, rfl, hb, hc⟩ := (HE.out.no F).at hlt
      have e0 : wr.cell? ⟨b, off + i * 2, none⟩ = some (.int .i64 o.dots[i].1) := hc 0 _ rfl
      have e1 : wr.cell? ⟨b, off + i * 2 + 1, none⟩ = some (.int .i64 o.dots[i].2) := hc 1 _ rfl
      clear hc
      have q3 : wr.cell? ⟨w.heap.size, 3, none⟩ = some (.slice ad o.deps.length cd) := obj_cell Bk 3
      have q13 : wr.cell? ⟨w.heap.size, 13, none⟩ = some (.slice (some ⟨b, off, none⟩) o.dots.length co) := obj_cell Bk 13
      have HC := Lib.hid (fun W (f : Frm No wr W) => refHas_ok (HS.out.no (F.trans f)) o.dots[i])
      have HX : Hid (o.dots.getD i (0, 0) = o.dots[i]) := Lib.hid (gd hlt)
      obtain ⟨x, hx⟩ : ∃ x, Hid (x = o.dots[i]) := ⟨_, Lib.hid rfl⟩
      rw [← hx.out] at e0 e1 HC HX
      rcases hv : vHas o.deps x with _ | _
      · have HV : Hid (B = false) := Lib.hid (by
          rw [hBq.out]
          refine decide_eq_false fun h => ?_
          have := (h.1 i hlt).1
          rw [HX.out, hv] at this
          cases this)
        rw [hv] at HC
        clear hv
        go_wp2_with (fail)
        refine wp_region_plan [([0, 1, 2, 3, 4, 5, 6, 7, 8, 9, 10, 11, 12, 13, 14, 15, 19, 20, 21, 22, 23, 16], [23, 20, 14]), ([17, 18, 24, 25, 26, 27], [])] 43 (by kernel_rfl) (by kernel_rfl) (by simp) ?_
        intro N hN
        simp only [wpSegs, List.map_cons, List.map_nil, List.getD_cons_zero, List.getD_cons_succ]
        go_wp2_with (fail)
        refine (HC.out _ (Frm.drew No wr)).mono ?_
        rintro e w1 ⟨rfl, f1⟩
        have F1 : Frm No wr w1 := (Frm.drew No wr).trans f1
        have B1 := F1.obj Bk id
        have d13 : w1.cell? ⟨w.heap.size, 13, none⟩ = some (.slice (some ⟨b, off, none⟩) o.dots.length co) := obj_cell B1 13
        have d3 : w1.cell? ⟨w.heap.size, 3, none⟩ = some (.slice ad o.deps.length cd) := obj_cell B1 3
        have nd := lt_of_block B1
        have r0 : w1.cell? ⟨b, off + i * 2, none⟩ = some (.int .i64 x.1) := (F1.cell (p := ⟨b, off + i * 2, none⟩) hb id).trans e0
        have r1 : w1.cell? ⟨b, off + i * 2 + 1, none⟩ = some (.int .i64 x.2) := (F1.cell (p := ⟨b, off + i * 2 + 1, none⟩) hb id).trans e1
        clear f1 HC
        go_wp2_with (fail)
        refine ⟨again_cons (again_off rfl rfl) (again_cons (again_off rfl rfl) (again_cons (again_off rfl rfl) again_nil)), ?_⟩
        go_wp2_with (fail)
        go_ret
        exact ⟨congrArg (fun b => Ending.returned (Value.bool b)) HV.out.symm, F.trans F1⟩
      have HV := Lib.hid hv
      rw [hv] at HC
      clear hv
      by_cases hi0 : i = 0
      · have hi0' : ¬ ((0 : Int) < (i : Int)) := by omega
        have HI := Lib.hid hi0
        clear hi0
        go_wp2_with (fail)
        refine wp_region_plan [([0, 1, 2, 3, 4, 5, 6, 7, 8, 9, 10, 11, 12, 13, 14, 15, 19, 20, 21, 22, 23, 16], [23, 20, 14]), ([17, 18, 24, 25, 26, 27], [])] 43 (by kernel_rfl) (by kernel_rfl) (by simp) ?_
        intro N hN
        simp only [wpSegs, List.map_cons, List.map_nil, List.getD_cons_zero, List.getD_cons_succ]
        go_wp2_with (fail)
        refine (HC.out _ (Frm.drew No wr)).mono ?_
        rintro e w1 ⟨rfl, f1⟩
        have F1 : Frm No wr w1 := (Frm.drew No wr).trans f1
        have B1 := F1.obj Bk id
        have d13 : w1.cell? ⟨w.heap.size, 13, none⟩ = some (.slice (some ⟨b, off, none⟩) o.dots.length co) := obj_cell B1 13
        have d3 : w1.cell? ⟨w.heap.size, 3, none⟩ = some (.slice ad o.deps.length cd) := obj_cell B1 3
        have nd := lt_of_block B1
        have r0 : w1.cell? ⟨b, off + i * 2, none⟩ = some (.int .i64 x.1) := (F1.cell (p := ⟨b, off + i * 2, none⟩) hb id).trans e0
        have r1 : w1.cell? ⟨b, off + i * 2 + 1, none⟩ = some (.int .i64 x.2) := (F1.cell (p := ⟨b, off + i * 2 + 1, none⟩) hb id).trans e1
        clear f1 HC
        go_wp2_with (fail)
        refine ⟨again_cons (again_off rfl rfl) (again_cons (again_off rfl rfl) (again_cons (again_off rfl rfl) again_nil)), ?_⟩
        go_wp2_with (fail)
        go_roundg (o.dots.length - (i + 1) + 1)
        case measure => have := hG.out; omega
        case rel => exact ⟨i + 1, by go_num, F.trans F1, by omega, rfl, B1, dotsRow_step hP.out (by rw [HX.out]; exact HV.out) fun h => by have := HI.out; omega⟩
      · obtain ⟨k, hk⟩ : ∃ k, i = k + 1 := ⟨i - 1, by omega⟩
        subst hk
        have lk : k < o.dots.length := by omega
        obtain ⟨b', off', heq, -, hc⟩ := (HE.out.no F).at lk
        simp only [Option.some.injEq, Addr.mk.injEq, and_true] at heq
        obtain ⟨rfl, rfl⟩ := heq
        have p0 : wr.cell? ⟨b, off + k * 2, none⟩ = some (.int .i64 o.dots[k].1) := hc 0 _ rfl
        have p1 : wr.cell? ⟨b, off + k * 2 + 1, none⟩ = some (.int .i64 o.dots[k].2) := hc 1 _ rfl
        clear hc
        have HY : Hid (o.dots.getD k (0, 0) = o.dots[k]) := Lib.hid (gd lk)
        obtain ⟨y, hy⟩ : ∃ y, Hid (y = o.dots[k]) := ⟨_, Lib.hid rfl⟩
        rw [← hy.out] at p0 p1 HY
        have HD := Lib.hid (fun W => refDotLess y x W)
        have e9 : ((k + 1 : Nat) : Int) - 1 = (k : Int) := by omega
        rcases hdl : dotLess y x with _ | _
        · rw [hdl] at HD
          have HV' : Hid (B = false) := Lib.hid (by
            rw [hBq.out]
            refine decide_eq_false fun h => ?_
            have := (h.1 (k + 1) hlt).2 (Nat.succ_pos k)
            rw [HX.out, Nat.add_sub_cancel, HY.out, hdl] at this
            cases this)
          clear hdl
          go_wp2_with (fail)
          refine wp_region_plan [([0, 1, 2, 3, 4, 5, 6, 7, 8, 9, 10, 11, 12, 13, 14, 15, 19, 20, 21, 22, 23, 16], [23, 20, 14]), ([17, 18, 24, 25, 26, 27], [])] 43 (by kernel_rfl) (by kernel_rfl) (by simp) ?_
          intro N hN
          simp only [wpSegs, List.map_cons, List.map_nil, List.getD_cons_zero, List.getD_cons_succ]
          go_wp2_with (fail)
          refine (HC.out _ (Frm.drew No wr)).mono ?_
          rintro e w1 ⟨rfl, f1⟩
          have F1 : Frm No wr w1 := (Frm.drew No wr).trans f1
          have B1 := F1.obj Bk id
          have d13 : w1.cell? ⟨w.heap.size, 13, none⟩ = some (.slice (some ⟨b, off, none⟩) o.dots.length co) := obj_cell B1 13
          have d3 : w1.cell? ⟨w.heap.size, 3, none⟩ = some (.slice ad o.deps.length cd) := obj_cell B1 3
          have nd := lt_of_block B1
          have r0 : w1.cell? ⟨b, off + (k + 1) * 2, none⟩ = some (.int .i64 x.1) := (F1.cell (p := ⟨b, off + (k + 1) * 2, none⟩) hb id).trans e0
          have r1 : w1.cell? ⟨b, off + (k + 1) * 2 + 1, none⟩ = some (.int .i64 x.2) := (F1.cell (p := ⟨b, off + (k + 1) * 2 + 1, none⟩) hb id).trans e1
          clear f1 HC
          have p0' : w1.cell? ⟨b, off + k * 2, none⟩ = some (.int .i64 y.1) := (F1.cell (p := ⟨b, off + k * 2, none⟩) hb id).trans p0
          have p1' : w1.cell? ⟨b, off + k * 2 + 1, none⟩ = some (.int .i64 y.2) := (F1.cell (p := ⟨b, off + k * 2 + 1, none⟩) hb id).trans p1
          go_wp2_with (fail)
          refine ⟨again_cons (again_of rfl rfl ?_) (again_cons (again_of rfl rfl ?_) (again_cons (again_of rfl rfl ?_) again_nil)), ?_⟩
          · go_simp
          · go_simp
          · go_simp
          go_wp2_with (fail)
          refine (HD.out _).mono ?_
          rintro e w2 ⟨rfl, f2⟩
          go_wp2_with (fail)
          go_ret
          exact ⟨congrArg (fun b => Ending.returned (Value.bool b)) HV'.out.symm, F.trans (F1.trans f2)⟩
        · rw [hdl] at HD
          have HDL := Lib.hid hdl
          clear hdl
          go_wp2_with (fail)
          refine wp_region_plan [([0, 1, 2, 3, 4, 5, 6, 7, 8, 9, 10, 11, 12, 13, 14, 15, 19, 20, 21, 22, 23, 16], [23, 20, 14]), ([17, 18, 24, 25, 26, 27], [])] 43 (by kernel_rfl) (by kernel_rfl) (by simp) ?_
          intro N hN
          simp only [wpSegs, List.map_cons, List.map_nil, List.getD_cons_zero, List.getD_cons_succ]
          go_wp2_with (fail)
          refine (HC.out _ (Frm.drew No wr)).mono ?_
          rintro e w1 ⟨rfl, f1⟩
          have F1 : Frm No wr w1 := (Frm.drew No wr).trans f1
          have B1 := F1.obj Bk id
          have d13 : w1.cell? ⟨w.heap.size, 13, none⟩ = some (.slice (some ⟨b, off, none⟩) o.dots.length co) := obj_cell B1 13
          have d3 : w1.cell? ⟨w.heap.size, 3, none⟩ = some (.slice ad o.deps.length cd) := obj_cell B1 3
          have nd := lt_of_block B1
          have r0 : w1.cell? ⟨b, off + (k + 1) * 2, none⟩ = some (.int .i64 x.1) := (F1.cell (p := ⟨b, off + (k + 1) * 2, none⟩) hb id).trans e0
          have r1 : w1.cell? ⟨b, off + (k + 1) * 2 + 1, none⟩ = some (.int .i64 x.2) := (F1.cell (p := ⟨b, off + (k + 1) * 2 + 1, none⟩) hb id).trans e1
          clear f1 HC
          have p0' : w1.cell? ⟨b, off + k * 2, none⟩ = some (.int .i64 y.1) := (F1.cell (p := ⟨b, off + k * 2, none⟩) hb id).trans p0
          have p1' : w1.cell? ⟨b, off + k * 2 + 1, none⟩ = some (.int .i64 y.2) := (F1.cell (p := ⟨b, off + k * 2 + 1, none⟩) hb id).trans p1
          go_wp2_with (fail)
          refine ⟨again_cons (again_of rfl rfl ?_) (again_cons (again_of rfl rfl ?_) (again_cons (again_of rfl rfl ?_) again_nil)), ?_⟩
          · go_simp
          · go_simp
          · go_simp
          go_wp2_with (fail)
          refine (HD.out _).mono ?_
          rintro e w2 ⟨rfl, f2⟩
          have B2 := f2.obj B1 id
          go_wp2_with (fail)
          go_roundg (o.dots.length - (k + 1 + 1) + 1)
          case measure => have := hG.out; omega
          case rel => exact ⟨k + 1 + 1, by go_num, F.trans (F1.trans f2), by omega, rfl, B2, dotsRow_step hP.out (by rw [HX.out]; exact HV.out) fun h => by rw [HX.out, Nat.add_sub_cancel, HY.out]; exact HDL.out⟩
    · have hii : ¬ ((i : Int) < (o.dots.length : Int)) := by omega
      have hrow : Hid (dotsRow o.deps o.dots o.dots.length) := Lib.hid (by obtain rfl : i = o.dots.length := (by omega); exact hP.out)
      have q13 : wr.cell? ⟨w.heap.size, 13, none⟩ = some (.slice ao o.dots.length co) := obj_cell Bk 13
      by_cases h64 : o.dots.length ≤ 64
      · have h64' : (o.dots.length : Int) ≤ 64 := by omega
        have hv : Hid (B = true) := Lib.hid (by rw [hBq.out]; exact decide_eq_true ⟨hrow.out, h64⟩)
        clear h64
        go_wp2_with (fail)
        go_ret
        exact ⟨congrArg (fun b => Ending.returned (Value.bool b)) hv.out.symm, F⟩
      · have h64' : ¬ (o.dots.length : Int) ≤ 64 := by omega
        have hv : Hid (B = false) := Lib.hid (by rw [hBq.out]; exact decide_eq_false fun h => h64 h.2)
        clear h64
        go_wp2_with (fail)
        go_ret
        exact ⟨congrArg (fun b => Ending.returned (Value.bool b)) hv.out.symm, F⟩
end Go.Proofs.YtofikfkgiblblaaGreatDoor
/- The reference's texts: Decimal, Number. -/
namespace Go.Proofs.YtofikfkgiblblaaGreatDoor
open Go.RowKit Go.Lib Go.Tt Go.Shelf
set_option maxRecDepth 100000 in
theorem conv_ow {w : World} {F : Nat → Prop} {o : Option Addr} {n c : Nat} {l : List UInt8} (O : Ow w F 5 eU8 (.slice o n c) l) (hl : l ≠ []) :
    (convert 63 9 (.slice o n c)).run Tryz.prog w = .ok (.string ⟨l.toArray⟩) w := by
  obtain ⟨rfl, -⟩ := O.cap
  rcases O with ⟨a, e, h⟩ | ⟨h, -⟩
  · exact absurd h hl
  · refine conv_own (B := 0) ?_
    rw [eU8_flat] at h
    exact h
/-- Digits laid so far: of n, where u is left. -/
def DInv (n u : Nat) (l : List UInt8) : Prop := (l = [] ∧ u = n) ∨ (l ≠ [] ∧ (if u = 0 then [] else Lib.decDigits u) ++ l = Lib.decDigits n)
theorem DInv.step {n u : Nat} {l : List UInt8} (h : DInv n u l) (hu : 0 < u ∨ l = []) : DInv n (u / 10) (UInt8.ofNat (48 + u % 10) :: l) := by
  refine .inr ⟨by simp, ?_⟩
  have key : (if u / 10 = 0 then [] else Lib.decDigits (u / 10)) ++ [UInt8.ofNat (48 + u % 10)] = Lib.decDigits u := by
    rw [Lib.decDigits.eq_1 u]
    by_cases h9 : u < 10
    · rw [if_pos (by omega), dif_pos h9, Nat.mod_eq_of_lt h9]; rfl
    · rw [if_neg (by omega), dif_neg h9]
  rw [List.append_cons, key]
  rcases h with ⟨rfl, rfl⟩ | ⟨h1, h2⟩
  · rw [List.append_nil]
  · have : u ≠ 0 := by rcases hu with h | h; exact (by omega); exact absurd h h1
    rw [if_neg this] at h2
    exact h2
theorem DInv.done {n : Nat} {l : List UInt8} (h : DInv n 0 l) (hl : l ≠ []) : l = Lib.decDigits n := by
  rcases h with ⟨h, -⟩ | ⟨-, h⟩
  · exact absurd h hl
  · rw [if_pos rfl] at h; exact h
theorem DInv.len {n u : Nat} {l : List UInt8} (h : DInv n u l) : l.length ≤ (Lib.decDigits n).length := by
  rcases h with ⟨rfl, -⟩ | ⟨-, h⟩
  · exact Nat.zero_le _
  · rw [← h, List.length_append]; omega
theorem dig_len {n : Nat} (hn : n ≤ 4611686018427387904) : (Lib.decDigits n).length ≤ 21 := by
  have := Lib.itoa_length_le (n : Int) (by omega) (by omega)
  rw [Lib.itoa, if_neg (by omega), Int.toNat_natCast] at this
  exact this
set_option maxHeartbeats 1000000 in
set_option maxRecDepth 100000 in
theorem refDecimal_ok (n : Nat) (hn : n ≤ 4611686018427387904) (w : World) : Calls Tryz.prog 92 #[.int .i64 n] w fun e w' => e = .returned (.string ⟨(Lib.decDigits n).toArray⟩) ∧ Frm No w w' := by
  have hn0 : ¬ ((n : Int) < 0) := by omega
  have hw : IntKind.u64.wrap (n : Int) = n := by rw [IntKind.wrap_u64]; omega
  have HL := Lib.hid (dig_len hn)
  go_enter Tryz.func92, Tryz.ntmps92
  go_wp2
  go_loopg [3, 4] (n + 1 + 1) (fun g xv ov wr => ∃ (u : Nat) (l : List UInt8) (o : Option Addr) (c : Nat), xv = .int .u64 u ∧ ov = .slice o l.length c ∧ g = u + (if l = [] then 1 else 0) + 1 ∧ u ≤ n ∧ DInv n u l ∧ Ow wr (fun k => w.heap.size ≤ k) 5 eU8 (.slice o l.length c) l ∧ Frm No w wr)
  case atStart => exact ⟨n, [], none, 0, rfl, rfl, by rw [if_pos rfl], Nat.le_refl _, .inl ⟨rfl, rfl⟩, Ow.nil _ _ _ _ _, Frm.refl No w⟩
  case round =>
    obtain ⟨u, l, o, c, rfl, rfl, hg, hun, hI, O, F⟩ := hrel
    have hG := Lib.hid hg
    have HI := Lib.hid hI
    clear hg
    have hll : l.length ≤ 21 := Nat.le_trans hI.len HL.out
    clear hI
    by_cases hu : 0 < u ∨ l = []
    · obtain ⟨r, hr⟩ : ∃ r, Hid (r = u % 10) := ⟨_, Lib.hid rfl⟩
      obtain ⟨q, hq⟩ : ∃ q, Hid (q = u / 10) := ⟨_, Lib.hid rfl⟩
      have hr9 : r < 10 := by have := hr.out; omega
      have h3 : (u : Int) % 10 = r := by have := hr.out; omega
      have h4 : (u : Int) / 10 = q := by have := hq.out; omega
      have h5 : IntKind.u64.wrap (48 + (r : Int)) = 48 + r := by rw [IntKind.wrap_u64]; omega
      have h6 : IntKind.u8.wrap (48 + (r : Int)) = 48 + r := by simp [IntKind.wrap, IntKind.bits, IntKind.signed]; omega
      have h7 : Int.tmod (u : Int) 10 = r := by rw [Int.tmod_eq_emod_of_nonneg (by omega)]; exact h3
      have h8 : Int.tdiv (u : Int) 10 = q := by rw [Int.tdiv_eq_ediv_of_nonneg (by omega)]; exact h4
      have h9 : IntKind.u64.wrap (r : Int) = r := by rw [IntKind.wrap_u64]; omega
      have h10 : IntKind.u64.wrap (q : Int) = q := by have := hq.out; rw [IntKind.wrap_u64]; omega
      obtain ⟨d, hd⟩ : ∃ d : UInt8, Hid (d = UInt8.ofNat (48 + r)) := ⟨_, Lib.hid rfl⟩
      have hu8 : Hid ((d.toNat : Int) = 48 + r) := Lib.hid (by rw [hd.out]; simp [UInt8.toNat_ofNat']; omega)
      have o0 : Ow (wr.alloc (.cells #[.int .u8 (48 + (r : Int))] 5 (0, 0))) (fun k => w.heap.size ≤ k ∧ wr.heap.size ≤ k) 5 eU8 (.slice (some ⟨wr.heap.size, 0, none⟩) 1 1) [d] :=
        Ow.row (l := [d]) (heap_alloc_new wr _) ⟨F.size, Nat.le_refl _⟩ (Nat.le_refl _) (by decide) rfl (by show [Value.int .u8 (48 + (r : Int))] = eU8.flat [d]; rw [← hu8.out]; rfl)
      have rd := (O.al (.cells #[.int .u8 (48 + (r : Int))] 5 (0, 0))).rd
      have hF := F.size
      have hcase : 0 < u ∨ ¬ 0 < u := Nat.lt_or_ge 0 u |>.imp id (by omega)
      rcases hcase with hp | hp
      · have hp' : 0 < (u : Int) := by omega
        clear hu
        go_wp2_with (at_builtin; refine wpList_ap _ rfl (.tmp 25) (.tmp 26) 63 63 rfl 5 _ 1 Tryz.underlying63 i_u8e rfl o0 (rd.src Tryz.underlying63) rfl rfl rfl (by show 1 + l.length ≤ maxLen; unfold maxLen; omega) (by show (1 + l.length) * 1 ≤ 140737488355328; omega) ?_)
        intro a1 c1 w1 o1 f1
        have F1 : Frm No w w1 := (F.al _).then f1 fun k hk hh => by omega
        go_wp2
        go_roundg (q + (if d :: l = [] then 1 else 0) + 1)
        case measure => have := hG.out; have := hq.out; rw [if_neg (by simp)]; omega
        case rel => exact ⟨q, d :: l, a1, c1, rfl, by rw [List.length_cons, Nat.add_comm], rfl, by have := hq.out; omega, by rw [hq.out, hd.out, hr.out]; exact HI.out.step (.inl hp), by rw [List.length_cons, Nat.add_comm l.length 1]; exact o1.mono fun k _ hh => by rcases hh with hh | hh; exact hh.1; have := hh.1; simp at this; omega, F1⟩
      · obtain rfl : u = 0 := by omega
        obtain rfl : l = [] := hu.resolve_left hp
        have hr0 : r = 0 := by have := hr.out; omega
        have hq0 : q = 0 := by have := hq.out; omega
        subst hr0 hq0
        clear hu hp h3 h4 h5 h7 h8 h9 h10
        go_wp2_with (at_builtin; refine wpList_ap _ rfl (.tmp 25) (.tmp 26) 63 63 rfl 5 _ 1 Tryz.underlying63 i_u8e rfl o0 (rd.src Tryz.underlying63) rfl rfl rfl (by show 1 + 0 ≤ maxLen; unfold maxLen; omega) (by show (1 + 0) * 1 ≤ 140737488355328; omega) ?_)
        intro a1 c1 w1 o1 f1
        have F1 : Frm No w w1 := (F.al _).then f1 fun k hk hh => by omega
        go_wp2
        go_roundg (0 + (if d :: [] = ([] : List UInt8) then 1 else 0) + 1)
        case measure => have := hG.out; simp at this ⊢; omega
        case rel => exact ⟨0, [d], a1, c1, rfl, rfl, rfl, Nat.zero_le _, by rw [hd.out]; exact HI.out.step (.inr rfl), o1.mono fun k _ hh => by rcases hh with hh | hh; exact hh.1; have := hh.1; simp at this; omega, F1⟩
    · have hu0 : u = 0 := by omega
      subst hu0
      have hl : l ≠ [] := fun e => hu (.inr e)
      have hl0 : ¬ (l.length : Int) = 0 := by cases l with | nil => exact absurd rfl hl | cons a l => simp; omega
      have hcv := conv_ow O hl
      have he := Lib.hid (HI.out.done hl)
      clear hu hl
      go_wp2
      go_ret
      exact ⟨congrArg (fun b : List UInt8 => Ending.returned (Value.string ⟨b.toArray⟩)) he.out, F⟩
theorem itoa_dec {n : Int} (h : 0 ≤ n) : Lib.itoa n = Lib.decDigits n.toNat := by rw [Lib.itoa, if_neg (by omega)]
set_option maxRecDepth 100000 in
theorem refNumber_ok (n : Int) (h1 : -4611686018427387904 ≤ n) (h2 : n ≤ 4611686018427387904) (w : World) : Calls Tryz.prog 43 #[.int .i64 n] w fun e w' => e = .returned (.string ⟨(Lib.itoa n).toArray⟩) ∧ Frm No w w' := by
  by_cases hn : n < 0
  · obtain ⟨m, hm⟩ : ∃ m : Nat, n = -(m : Int) := ⟨n.natAbs, by omega⟩
    subst hm
    have W := Lib.hid (fun W => refDecimal_ok m (by omega) W)
    have hi : Hid (Lib.itoa (-(m : Int)) = 45 :: Lib.decDigits m) := Lib.hid (by rw [Lib.itoa, if_pos hn]; congr 1; congr 1; omega)
    have hw : IntKind.i64.wrap (m : Int) = m := by rw [IntKind.wrap_i64]; omega
    have hlen := dig_len (n := m) (by omega)
    have hs : ¬ ((9223372036854775807 : Int) < ((⟨#[45]⟩ : ByteArray).size + (⟨(Lib.decDigits m).toArray⟩ : ByteArray).size : Nat)) := by show ¬ ((9223372036854775807 : Int) < ((1 + (Lib.decDigits m).toArray.size : Nat) : Int)); rw [List.size_toArray]; omega
    rw [hi.out]
    clear h1 h2 hlen
    obtain ⟨T, hT⟩ : ∃ T : ByteArray, Hid (T = ⟨(Lib.decDigits m).toArray⟩) := ⟨_, Lib.hid rfl⟩
    rw [← hT.out] at W hs
    go_enter Tryz.func43, Tryz.ntmps43
    go_wp2_with (fail)
    refine (W.out _).mono ?_
    rintro e w1 ⟨rfl, f1⟩
    go_wp2_with (fail)
    go_ret
    exact ⟨congrArg (fun b => Ending.returned (Value.string b)) (by rw [hT.out]; exact ByteArray.ext (Array.ext' (by simp))), f1⟩
  · have W := Lib.hid (fun W => refDecimal_ok n.toNat (by omega) W)
    rw [itoa_dec (by omega)]
    rw [show ((n.toNat : Nat) : Int) = n by omega] at W
    go_enter Tryz.func43, Tryz.ntmps43
    go_wp2_with (fail)
    refine (W.out _).mono ?_
    rintro e w1 ⟨rfl, f1⟩
    go_wp2_with (fail)
    go_ret
    exact ⟨rfl, f1⟩
end Go.Proofs.YtofikfkgiblblaaGreatDoor
/- The reference's texts: Quote. -/
namespace Go.Proofs.YtofikfkgiblblaaGreatDoor
open Go.RowKit Go.Lib Go.Tt Go.Shelf
theorem dig_at (k : Nat) (h : k < 16) : ∀ h', (ByteArray.mk #[48, 49, 50, 51, 52, 53, 54, 55, 56, 57, 97, 98, 99, 100, 101, 102])[k]'h' = hexD k := by
  have : ∀ k : Fin 16, (ByteArray.mk #[48, 49, 50, 51, 52, 53, 54, 55, 56, 57, 97, 98, 99, 100, 101, 102])[k.1]'(by have := k.2; show k.1 < 16; omega) = hexD k.1 := by decide
  exact fun _ => this ⟨k, h⟩
set_option maxHeartbeats 2000000 in
set_option maxRecDepth 100000 in
theorem refQuote_ok (s : ByteArray) (w : World) (hs : 6 * s.size + 2 ≤ 140737488355327) :
    Calls Tryz.prog 41 #[.string s] w fun e w' => e = .returned (.string ⟨(quoteL s.data.toList).toArray⟩) ∧ Frm No w w' := by
  have o0 : Ow (w.alloc (.cells #[.int .u8 34] 5 (0, 0))) (fun k => w.heap.size ≤ k) 5 eU8 (.slice (some ⟨w.heap.size, 0, none⟩) 1 1) (34 :: (s.data.toList.take 0).flatMap qc) := Ow.row (l := [34]) (heap_alloc_new w _) (Nat.le_refl _) (Nat.le_refl _) (by decide) rfl rfl
  have f0 := (Frm.refl No w).al (.cells #[.int .u8 34] 5 (0, 0))
  go_enter Tryz.func41, Tryz.ntmps41
  go_wp2_with (fail)
  go_loopg [3, 4] (s.size + 1) (fun g ov iv wr => ∃ (i n : Nat) (o : Option Addr) (c : Nat), iv = .int .i64 i ∧ ov = .slice o n c ∧ i ≤ s.size ∧ g = s.size - i + 1 ∧ Ow wr (fun k => w.heap.size ≤ k) 5 eU8 (.slice o n c) (34 :: (s.data.toList.take i).flatMap qc) ∧ Frm No w wr)
  case atStart => exact ⟨0, 1, _, _, rfl, rfl, Nat.zero_le _, by omega, o0, f0⟩
  case round =>
    clear o0 f0
    obtain ⟨i, n, o, c, rfl, rfl, hi, hg, O, F⟩ := hrel
    have hG := Lib.hid hg
    clear hg
    have hsz := F.size
    have HN := Lib.hid O.cap.1
    by_cases hlt : i < s.size
    · have l1 : i < s.data.toList.length := by simpa using hlt
      have hlen : (34 :: (s.data.toList.take i).flatMap qc).length ≤ 6 * i + 1 := by
        have h1 := flatQ_len (s.data.toList.take i)
        rw [List.length_take_of_le (by omega)] at h1
        rw [List.length_cons]; omega
      have cb : s[i].toNat < 256 := s[i].toNat_lt
      have HST := Lib.hid (flat_step s hlt)
      obtain ⟨L, hL⟩ : ∃ L, Hid (L = 34 :: (s.data.toList.take i).flatMap qc) := ⟨_, Lib.hid rfl⟩
      rw [← hL.out] at O hlen HN
      have hLn : Hid (∀ y, qc s[i] = y → 34 :: (s.data.toList.take (i + 1)).flatMap qc = L ++ y) := Lib.hid fun y hy => by rw [HST.out, hy, hL.out, List.cons_append]
      clear HST
      by_cases q1 : s[i].toNat = 34 ∨ s[i].toNat = 92
      · have HQ : Hid (qc s[i] = [92, s[i]]) := Lib.hid (if_pos q1)
        have hq : ((s[i].toNat : Int) == 34) = true ∨ (((s[i].toNat : Int) == 34) = false ∧ ((s[i].toNat : Int) == 92) = true) := by rcases q1 with h | h <;> simp [h]
        clear q1
        have rd : RdS (wr.alloc (.cells #[.int .u8 92, .int .u8 s[i].toNat] 5 (0, 0))) eU8 (.slice (some ⟨wr.heap.size, 0, none⟩) 2 2) [92, s[i]] := (Ow.row (F := fun _ => True) (l := [92, s[i]]) (c := 2) (heap_alloc_new wr _) trivial (Nat.le_refl _) (by decide) rfl rfl).rd
        rcases hq with b1 | ⟨b1, b2⟩
        all_goals
          go_wp2_with (at_builtin; refine wpList_ap _ rfl (.tmp 27) (.tmp 29) 63 63 rfl 5 _ 1 Tryz.underlying63 i_u8e rfl (O.al _) (rd.src Tryz.underlying63) rfl rfl rfl (by show L.length + 2 ≤ maxLen; unfold maxLen; omega) (by show (L.length + 2) * 1 ≤ 140737488355328; omega) ?_)
          intro a1 c1 w2 o2 f2
          have F2 : Frm No w w2 := (F.al _).then f2 fun k hk hh => by omega
          have O2 := o2.mono (G := fun k => w.heap.size ≤ k) fun k _ hh => by
            rcases hh with hh | hh
            · exact hh
            · have := hh.1; simp at this; omega
          rw [← hLn.out _ HQ.out] at O2
          clear o2 f2 rd O F
          go_wp2_with (fail)
          go_roundg (s.size - (i + 1) + 1)
          case measure => have := hG.out; omega
          case rel => exact ⟨i + 1, _, a1, c1, by go_num, rfl, by omega, rfl, O2, F2⟩
      by_cases q2 : s[i].toNat < 32 ∨ 126 < s[i].toNat
      · have HQ : Hid (qc s[i] = [92, 117, 48, 48] ++ [hexD (s[i].toNat / 16), hexD (s[i].toNat % 16)]) := Lib.hid (by unfold qc; rw [if_neg q1, if_pos q2]; rfl)
        have b1 : ((s[i].toNat : Int) == 34) = false := by simp; omega
        have b2 : ((s[i].toNat : Int) == 92) = false := by simp; omega
        have hq : ((s[i].toNat : Int) < 32) ∨ (¬ ((s[i].toNat : Int) < 32) ∧ (127 : Int) ≤ s[i].toNat) := by omega
        clear q1 q2
        have hsr : Src Tryz.prog eU8.k 9 (.string ⟨#[92, 117, 48, 48]⟩) 4 (eU8.flat [92, 117, 48, 48]) wr := Src.ofString wr Tryz.underlying9 ⟨#[92, 117, 48, 48]⟩
        rcases hq with q3 | ⟨q3, q4⟩
        all_goals
          go_wp2_with (at_builtin; refine wpList_ap _ rfl (.tmp 38) (.const (.string ⟨#[92, 117, 48, 48]⟩)) 63 9 rfl 5 _ 1 Tryz.underlying63 i_u8e rfl O hsr rfl rfl rfl (by show L.length + 4 ≤ maxLen; unfold maxLen; omega) (by show (L.length + 4) * 1 ≤ 140737488355328; omega) ?_)
          intro a1 c1 w2 o2 f2
          have F2 : Frm No w w2 := F.then f2 fun k hk hh => by omega
          have O2 := o2.mono (G := fun k => w.heap.size ≤ k) fun k _ hh => by
            rcases hh with hh | hh
            · exact hh
            · have := hh.1; omega
          clear o2 f2 hsr O F
          go_wp2_with (fail)
          have w3 : 0 ≤ (s[i].toNat : Int) / 16 := by omega
          have w4 : bits .and .u8 (s[i].toNat : Int) 15 = (s[i].toNat : Int) % 16 := and_u8_15 _ cb
          have w5 : (s[i].toNat : Int) / 16 < 16 := by omega
          have w6 : (s[i].toNat : Int) % 16 < 16 := by omega
          have w7 : 0 ≤ (s[i].toNat : Int) % 16 := by omega
          have x1 := dig_at (s[i].toNat / 16) (by omega)
          have x2 := dig_at (s[i].toNat % 16) (by omega)
          obtain ⟨g1, hg1⟩ : ∃ g, Hid (g = hexD (s[i].toNat / 16)) := ⟨_, Lib.hid rfl⟩
          obtain ⟨g2, hg2⟩ : ∃ g, Hid (g = hexD (s[i].toNat % 16)) := ⟨_, Lib.hid rfl⟩
          rw [← hg1.out] at x1
          rw [← hg2.out] at x2
          rw [← hg1.out, ← hg2.out] at HQ
          rw [show s[i].toNat / 16 = ((s[i].toNat : Int) / 16).toNat by omega] at x1
          rw [show s[i].toNat % 16 = ((s[i].toNat : Int) % 16).toNat by omega] at x2
          have O3 := (O2.no (Frm.drew No w2)).al (.cells #[.int .u8 g1.toNat, .int .u8 g2.toNat] 5 (0, 0))
          have rd : RdS (w2.drew.alloc (.cells #[.int .u8 g1.toNat, .int .u8 g2.toNat] 5 (0, 0))) eU8 (.slice (some ⟨w2.drew.heap.size, 0, none⟩) 2 2) [g1, g2] := (Ow.row (F := fun _ => True) (l := [g1, g2]) (c := 2) (heap_alloc_new w2.drew _) trivial (Nat.le_refl _) (by decide) rfl rfl).rd
          have hz2 := F2.size
          refine wp_region_fork (.seg [0, 1, 4] [] (.fork 2 [] (.fork 3 [] (.seg [5] [] (.seg [6] [] (.seg [7] [] (.seg [8] [] (.seg [9] [] .nil))))) 5 [] (.fork 3 [] (.seg [6] [] (.seg [7] [] (.seg [8] [] (.seg [9] [] .nil)))) 6 [] (.seg [3] [] (.seg [7] [] (.seg [8] [] (.seg [9] [] .nil)))))) 5 [] (.fork 2 [] (.fork 3 [] (.seg [6] [] (.seg [7] [] (.seg [8] [] (.seg [9] [] .nil)))) 6 [] (.seg [3] [] (.seg [7] [] (.seg [8] [] (.seg [9] [] .nil))))) 6 [] (.seg [2] [] (.seg [3] [] (.seg [7] [] (.seg [8] [] (.seg [9] [] .nil)))))))) 54 (by kernel_rfl) (by kernel_rfl) (by simp) ?_
          intro N hN
          simp only [wpST, wpSg, List.map_cons, List.map_nil, List.getD_cons_zero, List.getD_cons_succ]
          go_wp2_with (fail)
          refine ⟨?_, ?_⟩
          · go_wp2_with (fail)
            refine ⟨?_, ?_⟩
            · go_wp2_with (at_builtin; refine wpList_ap _ rfl (.tmp 40) (.tmp 47) 63 63 rfl 5 _ 1 Tryz.underlying63 i_u8e rfl O3 (rd.src Tryz.underlying63) rfl rfl rfl (by show (L ++ [92, 117, 48, 48]).length + 2 ≤ maxLen; rw [List.length_append]; show L.length + 4 + 2 ≤ _; unfold maxLen; omega) (by show ((L ++ [92, 117, 48, 48]).length + 2) * 1 ≤ 140737488355328; rw [List.length_append]; show (L.length + 4 + 2) * 1 ≤ _; omega) ?_)
              intro a2 c2 w3 o3 f3
              have F3 : Frm No w w3 := ((F2.trans (Frm.drew No w2)).al _).then f3 fun k hk hh => by omega
              have O4 := o3.mono (G := fun k => w.heap.size ≤ k) fun k _ hh => by
                rcases hh with hh | hh
                · exact hh
                · have := hh.1; simp at this; omega
              rw [← hLn.out [92, 117, 48, 48, g1, g2] HQ.out] at O4
              clear o3 f3 rd O2 O3 F2
              go_wp2_with (fail)
              go_roundg (s.size - (i + 1) + 1)
              case measure => have := hG.out; omega
              case rel => exact ⟨i + 1, _, a2, c2, by go_num, rfl, by omega, rfl, O4, F3⟩
            · go_wp2_with (fail)
              refine ⟨?_, ?_⟩
              · go_wp2_with (at_builtin; refine wpList_ap _ rfl (.tmp 40) (.tmp 47) 63 63 rfl 5 _ 1 Tryz.underlying63 i_u8e rfl O3 (rd.src Tryz.underlying63) rfl rfl rfl (by show (L ++ [92, 117, 48, 48]).length + 2 ≤ maxLen; rw [List.length_append]; show L.length + 4 + 2 ≤ _; unfold maxLen; omega) (by show ((L ++ [92, 117, 48, 48]).length + 2) * 1 ≤ 140737488355328; rw [List.length_append]; show (L.length + 4 + 2) * 1 ≤ _; omega) ?_)
                intro a2 c2 w3 o3 f3
                have F3 : Frm No w w3 := ((F2.trans (Frm.drew No w2)).al _).then f3 fun k hk hh => by omega
                have O4 := o3.mono (G := fun k => w.heap.size ≤ k) fun k _ hh => by
                  rcases hh with hh | hh
                  · exact hh
                  · have := hh.1; simp at this; omega
                rw [← hLn.out [92, 117, 48, 48, g1, g2] HQ.out] at O4
                clear o3 f3 rd O2 O3 F2
                go_wp2_with (fail)
                go_roundg (s.size - (i + 1) + 1)
                case measure => have := hG.out; omega
                case rel => exact ⟨i + 1, _, a2, c2, by go_num, rfl, by omega, rfl, O4, F3⟩
              · go_wp2_with (at_builtin; refine wpList_ap _ rfl (.tmp 40) (.tmp 47) 63 63 rfl 5 _ 1 Tryz.underlying63 i_u8e rfl O3 (rd.src Tryz.underlying63) rfl rfl rfl (by show (L ++ [92, 117, 48, 48]).length + 2 ≤ maxLen; rw [List.length_append]; show L.length + 4 + 2 ≤ _; unfold maxLen; omega) (by show ((L ++ [92, 117, 48, 48]).length + 2) * 1 ≤ 140737488355328; rw [List.length_append]; show (L.length + 4 + 2) * 1 ≤ _; omega) ?_)
                intro a2 c2 w3 o3 f3
                have F3 : Frm No w w3 := ((F2.trans (Frm.drew No w2)).al _).then f3 fun k hk hh => by omega
                have O4 := o3.mono (G := fun k => w.heap.size ≤ k) fun k _ hh => by
                  rcases hh with hh | hh
                  · exact hh
                  · have := hh.1; simp at this; omega
                rw [← hLn.out [92, 117, 48, 48, g1, g2] HQ.out] at O4
                clear o3 f3 rd O2 O3 F2
                go_wp2_with (fail)
                go_roundg (s.size - (i + 1) + 1)
                case measure => have := hG.out; omega
                case rel => exact ⟨i + 1, _, a2, c2, by go_num, rfl, by omega, rfl, O4, F3⟩
          · go_wp2_with (fail)
            refine ⟨?_, ?_⟩
            · go_wp2_with (fail)
              refine ⟨?_, ?_⟩
              · go_wp2_with (at_builtin; refine wpList_ap _ rfl (.tmp 40) (.tmp 47) 63 63 rfl 5 _ 1 Tryz.underlying63 i_u8e rfl O3 (rd.src Tryz.underlying63) rfl rfl rfl (by show (L ++ [92, 117, 48, 48]).length + 2 ≤ maxLen; rw [List.length_append]; show L.length + 4 + 2 ≤ _; unfold maxLen; omega) (by show ((L ++ [92, 117, 48, 48]).length + 2) * 1 ≤ 140737488355328; rw [List.length_append]; show (L.length + 4 + 2) * 1 ≤ _; omega) ?_)
                intro a2 c2 w3 o3 f3
                have F3 : Frm No w w3 := ((F2.trans (Frm.drew No w2)).al _).then f3 fun k hk hh => by omega
                have O4 := o3.mono (G := fun k => w.heap.size ≤ k) fun k _ hh => by
                  rcases hh with hh | hh
                  · exact hh
                  · have := hh.1; simp at this; omega
                rw [← hLn.out [92, 117, 48, 48, g1, g2] HQ.out] at O4
                clear o3 f3 rd O2 O3 F2
                go_wp2_with (fail)
                go_roundg (s.size - (i + 1) + 1)
                case measure => have := hG.out; omega
                case rel => exact ⟨i + 1, _, a2, c2, by go_num, rfl, by omega, rfl, O4, F3⟩
              · go_wp2_with (at_builtin; refine wpList_ap _ rfl (.tmp 40) (.tmp 47) 63 63 rfl 5 _ 1 Tryz.underlying63 i_u8e rfl O3 (rd.src Tryz.underlying63) rfl rfl rfl (by show (L ++ [92, 117, 48, 48]).length + 2 ≤ maxLen; rw [List.length_append]; show L.length + 4 + 2 ≤ _; unfold maxLen; omega) (by show ((L ++ [92, 117, 48, 48]).length + 2) * 1 ≤ 140737488355328; rw [List.length_append]; show (L.length + 4 + 2) * 1 ≤ _; omega) ?_)
                intro a2 c2 w3 o3 f3
                have F3 : Frm No w w3 := ((F2.trans (Frm.drew No w2)).al _).then f3 fun k hk hh => by omega
                have O4 := o3.mono (G := fun k => w.heap.size ≤ k) fun k _ hh => by
                  rcases hh with hh | hh
                  · exact hh
                  · have := hh.1; simp at this; omega
                rw [← hLn.out [92, 117, 48, 48, g1, g2] HQ.out] at O4
                clear o3 f3 rd O2 O3 F2
                go_wp2_with (fail)
                go_roundg (s.size - (i + 1) + 1)
                case measure => have := hG.out; omega
                case rel => exact ⟨i + 1, _, a2, c2, by go_num, rfl, by omega, rfl, O4, F3⟩
            · go_wp2_with (at_builtin; refine wpList_ap _ rfl (.tmp 40) (.tmp 47) 63 63 rfl 5 _ 1 Tryz.underlying63 i_u8e rfl O3 (rd.src Tryz.underlying63) rfl rfl rfl (by show (L ++ [92, 117, 48, 48]).length + 2 ≤ maxLen; rw [List.length_append]; show L.length + 4 + 2 ≤ _; unfold maxLen; omega) (by show ((L ++ [92, 117, 48, 48]).length + 2) * 1 ≤ 140737488355328; rw [List.length_append]; show (L.length + 4 + 2) * 1 ≤ _; omega) ?_)
              intro a2 c2 w3 o3 f3
              have F3 : Frm No w w3 := ((F2.trans (Frm.drew No w2)).al _).then f3 fun k hk hh => by omega
              have O4 := o3.mono (G := fun k => w.heap.size ≤ k) fun k _ hh => by
                rcases hh with hh | hh
                · exact hh
                · have := hh.1; simp at this; omega
              rw [← hLn.out [92, 117, 48, 48, g1, g2] HQ.out] at O4
              clear o3 f3 rd O2 O3 F2
              go_wp2_with (fail)
              go_roundg (s.size - (i + 1) + 1)
              case measure => have := hG.out; omega
              case rel => exact ⟨i + 1, _, a2, c2, by go_num, rfl, by omega, rfl, O4, F3⟩
      · have HQ : Hid (qc s[i] = [s[i]]) := Lib.hid (by unfold qc; rw [if_neg q1, if_neg q2])
        have b1 : ((s[i].toNat : Int) == 34) = false := by simp; omega
        have b2 : ((s[i].toNat : Int) == 92) = false := by simp; omega
        have b3 : ¬ ((s[i].toNat : Int) < 32) := by omega
        have b4 : ¬ ((127 : Int) ≤ s[i].toNat) := by omega
        clear q1 q2
        have rd : RdS (wr.alloc (.cells #[.int .u8 s[i].toNat] 5 (0, 0))) eU8 (.slice (some ⟨wr.heap.size, 0, none⟩) 1 1) [s[i]] := (Ow.row (F := fun _ => True) (l := [s[i]]) (c := 1) (heap_alloc_new wr _) trivial (Nat.le_refl _) (by decide) rfl rfl).rd
        go_wp2_with (at_builtin; refine wpList_ap _ rfl (.tmp 16) (.tmp 18) 63 63 rfl 5 _ 1 Tryz.underlying63 i_u8e rfl (O.al _) (rd.src Tryz.underlying63) rfl rfl rfl (by show L.length + 1 ≤ maxLen; unfold maxLen; omega) (by show (L.length + 1) * 1 ≤ 140737488355328; omega) ?_)
        intro a1 c1 w2 o2 f2
        have F2 : Frm No w w2 := (F.al _).then f2 fun k hk hh => by omega
        have O2 := o2.mono (G := fun k => w.heap.size ≤ k) fun k _ hh => by
          rcases hh with hh | hh
          · exact hh
          · have := hh.1; simp at this; omega
        rw [← hLn.out _ HQ.out] at O2
        clear o2 f2 rd O F
        go_wp2_with (fail)
        go_roundg (s.size - (i + 1) + 1)
        case measure => have := hG.out; omega
        case rel => exact ⟨i + 1, _, a1, c1, by go_num, rfl, by omega, rfl, O2, F2⟩
    · have hi2 : ¬ ((i : Int) < s.size) := by omega
      have ht : s.data.toList.take i = s.data.toList := List.take_of_length_le (by rw [Array.length_toList]; show s.size ≤ i; omega)
      rw [ht] at O HN
      have hlen : (34 :: s.data.toList.flatMap qc).length ≤ 6 * s.size + 1 := by
        have h1 := flatQ_len s.data.toList
        rw [List.length_cons]
        have e : s.data.toList.length = s.size := Array.length_toList
        omega
      clear ht
      obtain ⟨L, hL⟩ : ∃ L, Hid (L = 34 :: s.data.toList.flatMap qc) := ⟨_, Lib.hid rfl⟩
      rw [← hL.out] at O hlen HN
      have rd : RdS (wr.alloc (.cells #[.int .u8 34] 5 (0, 0))) eU8 (.slice (some ⟨wr.heap.size, 0, none⟩) 1 1) [34] := (Ow.row (F := fun _ => True) (l := [34]) (c := 1) (heap_alloc_new wr _) trivial (Nat.le_refl _) (by decide) rfl rfl).rd
      go_wp2_with (at_builtin; refine wpList_ap _ rfl (.tmp 49) (.tmp 50) 63 63 rfl 5 _ 1 Tryz.underlying63 i_u8e rfl (O.al _) (rd.src Tryz.underlying63) rfl rfl rfl (by show L.length + 1 ≤ maxLen; unfold maxLen; omega) (by show (L.length + 1) * 1 ≤ 140737488355328; omega) ?_)
      intro a1 c1 w2 o2 f2
      have F2 : Frm No w w2 := (F.al _).then f2 fun k hk hh => by omega
      have hcv := conv_ow o2 (by simp)
      clear o2 f2 rd O F
      go_wp2_with (fail)
      go_ret
      exact ⟨congrArg (fun b : List UInt8 => Ending.returned (Value.string ⟨b.toArray⟩)) (by rw [hL.out]; rfl), F2⟩
end Go.Proofs.YtofikfkgiblblaaGreatDoor
/- The reference's texts: quotes. -/
namespace Go.Proofs.YtofikfkgiblblaaGreatDoor
open Go.RowKit Go.Lib Go.Tt Go.Shelf
/-- What quotes has laid. -/
def jqL (ss : List ByteArray) : List UInt8 := 91 :: Lib.join (ss.map fun s => quoteL s.data.toList) [44]
theorem jqL_len (ss : List ByteArray) : (jqL ss).length ≤ wgt ss + 1 := by
  have := join_len ss
  unfold jqL
  rw [List.length_cons]; omega
theorem jqL_one (x : ByteArray) : jqL [x] = 91 :: quoteL x.data.toList := by
  unfold jqL
  rw [List.map_cons, Lib.join_cons]; simp [Lib.joinTail]
theorem jqL_snoc {l : List ByteArray} (h : l ≠ []) (x : ByteArray) : jqL (l ++ [x]) = jqL l ++ [44] ++ quoteL x.data.toList := by
  cases l with
  | nil => exact absurd rfl h
  | cons a l =>
    unfold jqL
    rw [List.cons_append, List.map_cons, List.map_cons, Lib.join_cons, Lib.join_cons, List.map_append]
    simp [Lib.joinTail]
theorem wgt_app : ∀ (a b : List ByteArray), wgt (a ++ b) = wgt a + wgt b
  | [], b => by simp [wgt]
  | x :: a, b => by
    show (6 * x.size + 3) + wgt (a ++ b) = (6 * x.size + 3) + wgt a + wgt b
    rw [wgt_app a b]; omega
theorem wgt_take (l : List ByteArray) (i : Nat) : wgt (l.take i) ≤ wgt l := by
  have := wgt_app (l.take i) (l.drop i)
  rw [List.take_append_drop] at this
  omega
theorem ba_size (l : List UInt8) : (⟨l.toArray⟩ : ByteArray).size = l.length := rfl
theorem ba_app (a b : List UInt8) : (⟨a.toArray⟩ : ByteArray) ++ ⟨b.toArray⟩ = ⟨(a ++ b).toArray⟩ := by
  apply ByteArray.ext
  simp [ByteArray.data_append]
set_option maxHeartbeats 1000000 in
set_option maxRecDepth 100000 in
theorem refQuotes_ok {w : World} {a : Option Addr} {n c : Nat} {ss : List ByteArray} (h : RdS w eStr (.slice a n c) ss) (hl : wgt ss + 2 ≤ 140737488355327) :
    Calls Tryz.prog 45 #[.slice a n c] w fun e w' => e = .returned (.string ⟨(textsL ss).toArray⟩) ∧ Frm No w w' := by
  obtain ⟨hn, hc1, hc2, -⟩ := h.facts
  unfold maxLen at hc2
  have HN := Lib.hid hn
  clear hn
  go_enter Tryz.func45, Tryz.ntmps45
  go_wp2_with (fail)
  go_loopg [3, 4] (n + 1) (fun g zv iv wr => ∃ (i : Nat) (Z : ByteArray), iv = .int .i64 i ∧ zv = .string Z ∧ i ≤ n ∧ g = n - i + 1 ∧ Z = ⟨(jqL (ss.take i)).toArray⟩ ∧ Frm No w wr)
  case atStart => exact ⟨0, _, rfl, rfl, Nat.zero_le _, by omega, rfl, Frm.refl No w⟩
  case round =>
    obtain ⟨i, Z, rfl, rfl, hi, hg, hZ, F⟩ := hrel
    have hG := Lib.hid hg
    have HZ := Lib.hid hZ
    have zl : Z.size ≤ wgt ss + 1 := by
      rw [hZ, ba_size]
      have := jqL_len (ss.take i)
      have := wgt_take ss i
      omega
    clear hg hZ
    by_cases hlt : i < n
    · have l1 : i < ss.length := by rw [← HN.out]; exact hlt
      obtain ⟨b, off, rfl, hb, hc⟩ := (h.no F).at l1
      have e0 : wr.cell? ⟨b, off + i, none⟩ = some (.string ss[i]) := by have := hc 0 _ rfl; rwa [show i * eStr.k + 0 = i from Nat.mul_one i] at this
      have hw := wgt_at l1
      have zl2 : Z.size + (6 * ss[i].size + 3) ≤ wgt ss + 1 := by
        have h1 := jqL_len (ss.take i)
        have h2 := wgt_app (ss.take i) (ss.drop i)
        rw [List.take_append_drop, List.drop_eq_getElem_cons l1] at h2
        rw [HZ.out, ba_size]
        rw [show wgt (ss[i] :: ss.drop (i + 1)) = (6 * ss[i].size + 3) + wgt (ss.drop (i + 1)) from rfl] at h2
        omega
      obtain ⟨x, hx⟩ : ∃ x, Hid (x = ss[i]) := ⟨_, Lib.hid rfl⟩
      rw [← hx.out] at e0 hw zl2
      have HQ := Lib.hid (fun W => refQuote_ok x W (by omega))
      obtain ⟨T, hT⟩ : ∃ T : ByteArray, Hid (T = ⟨(quoteL x.data.toList).toArray⟩) := ⟨_, Lib.hid rfl⟩
      rw [← hT.out] at HQ
      have ht : T.size ≤ 6 * x.size + 2 := by rw [hT.out, ba_size]; exact quoteL_len x
      have hst : ss.take (i + 1) = ss.take i ++ [x] := by rw [List.take_succ_eq_append_getElem l1, ← hx.out]
      have HST := Lib.hid hst
      clear hst hc hb
      by_cases h0 : i = 0
      · have h0' : ¬ ((0 : Int) < (i : Int)) := by omega
        have H0 := Lib.hid h0
        clear h0
        have hs2 : ¬ ((9223372036854775807 : Int) < (Z.size + T.size : Nat)) := by omega
        go_wp2_with (fail)
        refine (HQ.out _).mono ?_
        rintro e w2 ⟨rfl, f2⟩
        have F2 := F.trans f2
        go_wp2_with (fail)
        go_roundg (n - (i + 1) + 1)
        case measure => have := hG.out; omega
        case rel => exact ⟨i + 1, Z ++ T, by go_num, rfl, by omega, rfl, by rw [HST.out, HZ.out, hT.out, H0.out, ba_app]; show _ = (⟨(jqL [x]).toArray⟩ : ByteArray); rw [jqL_one]; rfl, F2⟩
      · have h0' : (0 : Int) < (i : Int) := by omega
        obtain ⟨Y, hY⟩ : ∃ Y, Z ++ ⟨#[44]⟩ = Y := ⟨_, rfl⟩
        have hYs : Y.size = Z.size + 1 := by rw [← hY, ByteArray.size_append]; rfl
        have HY := Lib.hid hYs
        have hs1 : ¬ ((9223372036854775807 : Int) < (Z.size + (⟨#[44]⟩ : ByteArray).size : Nat)) := by show ¬ ((9223372036854775807 : Int) < (Z.size + 1 : Nat)); omega
        have hs2 : ¬ ((9223372036854775807 : Int) < (Y.size + T.size : Nat)) := by omega
        clear hYs
        go_wp2_with (fail)
        refine (HQ.out _).mono ?_
        rintro e w2 ⟨rfl, f2⟩
        have F2 := F.trans f2
        go_wp2_with (fail)
        go_roundg (n - (i + 1) + 1)
        case measure => have := hG.out; omega
        case rel => exact ⟨i + 1, Y ++ T, by go_num, rfl, by omega, rfl, by
          have hne : ss.take i ≠ [] := fun e => by have := congrArg List.length e; rw [List.length_take_of_le (by omega)] at this; exact h0 this
          rw [HST.out, jqL_snoc hne, ← hY, HZ.out, hT.out, show (⟨#[44]⟩ : ByteArray) = ⟨([44] : List UInt8).toArray⟩ from rfl, ba_app, ba_app], F2⟩
    · have hin : i = n := by omega
      have hs3 : ¬ ((9223372036854775807 : Int) < (Z.size + (⟨#[93]⟩ : ByteArray).size : Nat)) := by show ¬ ((9223372036854775807 : Int) < (Z.size + 1 : Nat)); omega
      have hE : Hid (Z ++ ⟨#[93]⟩ = ⟨(textsL ss).toArray⟩) := Lib.hid (by
        rw [HZ.out, hin, HN.out, List.take_length, show (⟨#[93]⟩ : ByteArray) = ⟨([93] : List UInt8).toArray⟩ from rfl, ba_app]; rfl)
      have hlt' : ¬ ((i : Int) < (n : Int)) := by omega
      clear hin
      go_wp2_with (fail)
      go_ret
      exact ⟨congrArg (fun b => Ending.returned (Value.string b)) hE.out, F⟩
end Go.Proofs.YtofikfkgiblblaaGreatDoor

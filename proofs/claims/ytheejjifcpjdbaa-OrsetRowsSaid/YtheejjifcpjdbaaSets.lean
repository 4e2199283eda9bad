/- Sets: the dots that put a value, told alike by the program and by the document's answer. -/
import Derived.Test.YtheejjifcpjdbaaDots
namespace Go.Proofs.Ytheejjifcpjdbaa
set_option linter.unusedVariables false
set_option linter.unusedSimpArgs false
open Go.RowKit Go.Lib Go.Tt
/-- The dots that put a value. -/
def dotsOf (l : List En) (v : ByteArray) : List Dt := (l.filter fun e => e.2.2 = v).map fun e => (e.1, e.2.1)
theorem dotsOf_len (l : List En) (v : ByteArray) : (dotsOf l v).length ≤ l.length := by
  unfold dotsOf; rw [List.length_map]; exact List.length_filter_le _ _
theorem dotsOf_step {l : List En} {v : ByteArray} {i : Nat} {x : En} (h : i < l.length) (hx : Hid (x = l[i])) : dotsOf (l.take (i + 1)) v = dotsOf (l.take i) v ++ if x.2.2 = v then [(x.1, x.2.1)] else [] := by
  rw [List.take_succ_eq_append_getElem h, ← hx.out]
  unfold dotsOf
  rw [List.filter_append, List.map_append]
  by_cases hv : x.2.2 = v <;> simp [hv]
theorem str_eq {x y : ByteArray} (h : (x.toList == y.toList) = true) : x = y := str_eq_of (by rw [h]; rfl)
theorem str_ne {x y : ByteArray} (h : (x.toList == y.toList) = false) : ¬ x = y := str_ne_of (by rw [h]; rfl)
set_option maxRecDepth 100000 in
theorem refDotsOf_ok {w : World} {c : CellV} {ve vl vs : Value} (h : CellR w c ve vl vs) (hb : CellB c) (hk : c.kind = 2) (v : ByteArray) :
    Calls Try.prog 48 #[cval c ve vl vs, .string v] w fun e w' => ∃ a' n' c', e = .returned (.tuple #[.slice a' n' c', .int .i64 0]) ∧ Ow w' (Nw No w w') 61 eDt (.slice a' n' c') (dotsOf c.ents v) ∧ Frm No w w' := by
  obtain ⟨he, hl, hs⟩ := h
  obtain ⟨ae, ce, rfl⟩ := he.sh
  obtain ⟨al, cl, rfl⟩ := hl.sh
  obtain ⟨at_, cs, rfl⟩ := hs.sh
  unfold cval
  rw [hk]
  go_enter Try.func48, Try.ntmps48
  go_wp2
  obtain ⟨wb, hwb⟩ : ∃ wb, Hid (wb = w.alloc (.cells #[.int .i64 2, .bool c.set, .int .i64 c.st.1, .int .i64 c.st.2, .string c.value, .int .i64 c.num.1, .int .i64 c.num.2, .slice ae c.ents.length ce, .slice al c.elems.length cl, .slice at_ c.seen.length cs] 59)) := ⟨_, Lib.hid rfl⟩
  have HE := Lib.hid he
  have hb1 : c.ents.length * 32 ≤ 140737488351232 := hb.e
  clear he hl hs hk hb
  go_loopg [6, 7] (c.ents.length + 1) (fun g ov iv wr => ∃ (i : Nat) (ao : Option Addr) (no co : Nat), iv = .int .i64 i ∧ ov = .slice ao no co ∧ i ≤ c.ents.length ∧ g = c.ents.length - i + 1 ∧ Frm No w wr ∧
    wr.heap[w.heap.size]? = some (.cells #[.int .i64 2, .bool c.set, .int .i64 c.st.1, .int .i64 c.st.2, .string c.value, .int .i64 c.num.1, .int .i64 c.num.2, .slice ae c.ents.length ce, .slice al c.elems.length cl, .slice at_ c.seen.length cs] 59 (0, 0)) ∧
    Ow wr (fun k => w.heap.size + 1 ≤ k) 61 eDt (.slice ao no co) (dotsOf (c.ents.take i) v))
  case atStart => exact ⟨0, none, 0, 0, rfl, rfl, Nat.zero_le _, by omega, (Frm.refl No w).al _, heap_alloc_new w _, Ow.nil _ _ _ _ _⟩
  case round =>
    obtain ⟨i, ao, no, co, rfl, rfl, hi, hg, F, B, O⟩ := hrel
    have hG := Lib.hid hg
    have n1 : w.heap.size < wr.heap.size := lt_of_block B
    have q7 : wr.cell? ⟨w.heap.size, 7, none⟩ = some (.slice ae c.ents.length ce) := obj_cell B 7
    clear hg
    by_cases hlt : i < c.ents.length
    · obtain ⟨b, off, rfl, hbl, hc⟩ := (HE.out.no F).at hlt
      have e0 : wr.cell? ⟨b, off + i * 3, none⟩ = some (.int .i64 c.ents[i].1) := hc 0 _ rfl
      have e1 : wr.cell? ⟨b, off + i * 3 + 1, none⟩ = some (.int .i64 c.ents[i].2.1) := hc 1 _ rfl
      have e2 : wr.cell? ⟨b, off + i * 3 + 2, none⟩ = some (.string c.ents[i].2.2) := hc 2 _ rfl
      clear hc
      obtain ⟨x, hx⟩ : ∃ x, Hid (x = c.ents[i]) := ⟨_, Lib.hid rfl⟩
      rw [← hx.out] at e0 e1 e2
      have hno := O.cap.1
      have hle : (dotsOf (c.ents.take i) v).length ≤ i := Nat.le_trans (dotsOf_len _ v) (by rw [List.length_take]; omega)
      have HN := Lib.hid hno
      have hle' : no ≤ i := by omega
      clear hno hle
      go_wp2_with (at_builtin; refine wpList_ap _ rfl (.tmp 26) (.tmp 33) 62 62 rfl 61 _ 16 Try.underlying62 i_dt rfl (O.al _) ((RdS.lit1 _ eDt (x.1, x.2.1) _).src Try.underlying62) rfl rfl rfl ?c1 ?c2 ?_)
      case c1 => rw [← HN.out]; unfold maxLen; omega
      case c2 => rw [← HN.out]; omega
      · intro a' c' w1 o1 f1
        have B1 := f1.obj (al_old B) (by omega)
        have F1 : Frm No w w1 := (F.al _).then f1 fun k hk hh => by omega
        rw [← HN.out] at o1
        go_wp2
        go_roundg (c.ents.length - (i + 1) + 1)
        case measure => have := hG.out; omega
        case rel =>
          have hv : x.2.2 = v := str_eq ‹_›
          have hs := dotsOf_step (v := v) hlt hx
          rw [if_pos hv] at hs
          exact ⟨i + 1, a', no + 1, c', by go_num, by rw [HN.out], by omega, rfl, F1, B1, by rw [hs]; exact o1.mono fun k _ hh => by rcases hh with hh | hh; exact hh; have := hh.1; simp at this; omega⟩
      · go_roundg (c.ents.length - (i + 1) + 1)
        case measure => have := hG.out; omega
        case rel =>
          have hv : ¬ x.2.2 = v := str_ne ‹_›
          have hs := dotsOf_step (v := v) hlt hx
          rw [if_neg hv, List.append_nil] at hs
          exact ⟨i + 1, ao, no, co, by go_num, rfl, by omega, rfl, F, B, by rw [hs]; exact O⟩
    · have hii : ¬ ((i : Int) < c.ents.length) := by omega
      go_wp2
      go_ret2
      have : c.ents.take i = c.ents := List.take_of_length_le (by omega)
      rw [this] at O
      exact ⟨ao, no, co, rfl, O.fin (by omega), F⟩

set_option maxRecDepth 100000 in
theorem dots_ok {w : World} {c : CellV} {ve vl vs : Value} (h : CellR w c ve vl vs) (hb : CellB c) (hk : c.kind = 2) (v : ByteArray) :
    Calls Try.prog 47 #[cval c ve vl vs, .string v] w fun e w' => ∃ a' n' c', e = .returned (.tuple #[.slice a' n' c', .int .i64 0]) ∧ Ow w' (Nw No w w') 61 eDt (.slice a' n' c') (dotsOf c.ents v) ∧ Frm No w w' := by
  obtain ⟨he, hl, hs⟩ := h
  obtain ⟨ae, ce, rfl⟩ := he.sh
  obtain ⟨al, cl, rfl⟩ := hl.sh
  obtain ⟨at_, cs, rfl⟩ := hs.sh
  unfold cval
  rw [hk]
  have HE := Lib.hid he
  have hb1 : c.ents.length * 32 ≤ 140737488351232 := hb.e
  clear he hl hs hk hb
  go_enter Try.func47, Try.ntmps47
  go_wp2
  go_loopg [6, 15] (c.ents.length + 1) (fun g ov iv wr => ∃ (i : Nat) (ao : Option Addr) (no co : Nat), iv = .int .i64 i ∧ ov = .slice ao no co ∧ i ≤ c.ents.length ∧ g = c.ents.length - i + 1 ∧ Frm No w wr ∧ w.heap.size + 1 ≤ wr.heap.size ∧
    Ow wr (fun k => w.heap.size + 1 ≤ k) 61 eDt (.slice ao no co) (dotsOf (c.ents.take i) v))
  case atStart => exact ⟨0, none, 0, 0, rfl, rfl, Nat.zero_le _, by omega, (Frm.refl No w).al _, by simp, Ow.nil _ _ _ _ _⟩
  case round =>
    obtain ⟨i, ao, no, co, rfl, rfl, hi, hg, F, hsz, O⟩ := hrel
    have hG := Lib.hid hg
    clear hg
    by_cases hlt : i < c.ents.length
    · obtain ⟨b, off, rfl, hbl, hc⟩ := (HE.out.no F).at hlt
      have e0 : wr.cell? ⟨b, off + i * 3, none⟩ = some (.int .i64 c.ents[i].1) := hc 0 _ rfl
      have e1 : wr.cell? ⟨b, off + i * 3 + 1, none⟩ = some (.int .i64 c.ents[i].2.1) := hc 1 _ rfl
      have e2 : wr.cell? ⟨b, off + i * 3 + 2, none⟩ = some (.string c.ents[i].2.2) := hc 2 _ rfl
      clear hc
      obtain ⟨x, hx⟩ : ∃ x, Hid (x = c.ents[i]) := ⟨_, Lib.hid rfl⟩
      rw [← hx.out] at e0 e1 e2
      have hno := O.cap.1
      have hle : (dotsOf (c.ents.take i) v).length ≤ i := Nat.le_trans (dotsOf_len _ v) (by rw [List.length_take]; omega)
      have HN := Lib.hid hno
      have hle' : no ≤ i := by omega
      clear hno hle
      go_wp2_with (at_builtin; refine wpList_ap _ rfl (.tmp 23) (.tmp 26) 62 62 rfl 61 _ 16 Try.underlying62 i_dt rfl ((O.al _).al _) ((RdS.litg _ eDt (x.1, x.2.1) _ (g := wr.heap.size + 1) (by simp)).src Try.underlying62) rfl rfl rfl ?c1 ?c2 ?_)
      case c1 => rw [← HN.out]; unfold maxLen; omega
      case c2 => rw [← HN.out]; omega
      · intro a' c' w1 o1 f1
        have F1 : Frm No w w1 := ((F.al _).al _).then f1 fun k hk hh => by omega
        have z1 : w.heap.size + 1 ≤ w1.heap.size := by have := f1.size; simp at this; omega
        rw [← HN.out] at o1
        go_wp2
        go_roundg (c.ents.length - (i + 1) + 1)
        case measure => have := hG.out; omega
        case rel =>
          have hv : x.2.2 = v := str_eq ‹_›
          have hs := dotsOf_step (v := v) hlt hx
          rw [if_pos hv] at hs
          exact ⟨i + 1, a', no + 1, c', by go_num, by rw [HN.out], by omega, rfl, F1, z1, by rw [hs]; exact o1.mono fun k _ hh => by rcases hh with hh | hh; exact hh; have := hh.1; simp at this; omega⟩
      · go_roundg (c.ents.length - (i + 1) + 1)
        case measure => have := hG.out; omega
        case rel =>
          have hv : ¬ x.2.2 = v := str_ne ‹_›
          have hs := dotsOf_step (v := v) hlt hx
          rw [if_neg hv, List.append_nil] at hs
          exact ⟨i + 1, ao, no, co, by go_num, rfl, by omega, rfl, F.al _, by simp; omega, by rw [hs]; exact O.al _⟩
    · have hii : ¬ ((i : Int) < c.ents.length) := by omega
      go_wp2
      go_ret2
      have : c.ents.take i = c.ents := List.take_of_length_le (by omega)
      rw [this] at O
      exact ⟨ao, no, co, rfl, O.fin (by omega), F⟩
end Go.Proofs.Ytheejjifcpjdbaa

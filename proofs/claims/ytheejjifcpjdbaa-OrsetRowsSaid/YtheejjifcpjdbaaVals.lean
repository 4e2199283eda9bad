/- Sets: orset.Values. -/
import Derived.Test.YtheejjifcpjdbaaLaySort
import Derived.Test.YtheejjifcpjdbaaBlk4
import Derived.Test.YtheejjifcpjdbaaPutF
import Derived.Sort.OwnSorted
import Derived.Lib.OwnBridge
namespace Go.Proofs.Ytheejjifcpjdbaa
set_option linter.unusedVariables false
set_option linter.unusedSimpArgs false
open Go.RowKit Go.Lib Go.Tt Go.Shelf
/-- Texts by their bytes. -/
def sortB (l : List ByteArray) : List ByteArray := ((l.map (·.data.toList)).mergeSort fun x y => decide (x ≤ y)).map fun b => ⟨b.toArray⟩
theorem sortB_len (l : List ByteArray) : (sortB l).length = l.length := by simp [sortB]
theorem flat_str (l : List ByteArray) : eStr.flat l = l.map Value.string := by
  induction l with
  | nil => rfl
  | cons x l ih => rw [eStr.flat_cons, ih]; rfl
theorem enc_str (l : List (List UInt8)) : l.map encStr = eStr.flat (l.map fun b => (⟨b.toArray⟩ : ByteArray)) := by
  rw [flat_str, List.map_map]
  rfl
theorem enc_of (l : List ByteArray) : (l.map (·.data.toList)).map encStr = eStr.flat l := by rw [flat_str]; exact map_encStr l
theorem sort_ok {w : World} {F : Nat → Prop} {a : Option Addr} {n c : Nat} {l : List ByteArray} (h : Ow w F 9 eStr (.slice a n c) l) (hb : n * 16 ≤ 140737488355328) :
    Calls Try.prog 76 #[.slice a n c] w fun e w' => e = .returned (.tuple #[]) ∧ Ow w' F 9 eStr (.slice a n c) (sortB l) ∧ Frm F w w' := by
  rcases Nat.eq_zero_or_pos n with h0 | h0
  · subst h0
    have hl : l = [] := List.eq_nil_of_length_eq_zero h.cap.1.symm
    subst hl
    refine (AnyM.slices_Sort_string_none Try.l76 a c w).mono ?_
    rintro e w' ⟨rfl, rfl⟩
    exact ⟨rfl, by rw [show sortB [] = [] by simp [sortB]]; exact h, Frm.refl _ _⟩
  · obtain ⟨g, row, rfl, hB, hF, hn, hnc, hcm, hrs, htk⟩ := h.cases h0
    have htk' : row.toList.take (l.map (·.data.toList)).length = (l.map (·.data.toList)).map encStr := by
      rw [enc_of, List.length_map]
      rw [show l.length = l.length * eStr.k from (Nat.mul_one _).symm]
      exact htk
    have hc := AnyM.slices_Sort_string Try.l76 g 0 c (l.map (·.data.toList)) w (holds_of_block hB htk') (lt_of_block hB) (by rw [List.length_map]; omega)
    rw [List.length_map, ← hn] at hc
    refine hc.mono ?_
    rintro e w' ⟨rfl, m, os, rfl⟩
    have hl : ((l.map (·.data.toList)).mergeSort fun x y => decide (x ≤ y)).length = (l.map (·.data.toList)).length := by simp
    have o := ownsRow_sorted (base := 0) (n := m) (os := os) (cap := c) hl (Nat.zero_le _) hB (by rw [List.length_map]; omega) hcm hrs
    rw [enc_str, List.length_map, ← hn] at o
    refine ⟨rfl, .inr ⟨?_, fun g' hg' => by obtain rfl := Option.some.inj hg'; exact hF⟩, (Frm.of_grown (grownBy_sorted _)).mono fun k _ e => by obtain rfl := Option.some.inj e; exact hF⟩
    rw [sortB_len, ← hn]
    exact o
theorem str_dec (x y : ByteArray) : (x.toList == y.toList) = decide (x = y) := by
  cases h : x.toList == y.toList with
  | true => rw [decide_eq_true (str_eq h)]
  | false => rw [decide_eq_false (str_ne h)]
theorem eqlStr (T : TypeId) : EqlAt Try.prog T Value.string (fun x y => decide (x = y)) := ⟨fun x y w => by rw [(EqlAt.string Try.prog T).1 x y w]; exact congrArg (fun b => Result.ok (Value.bool b) w) (str_dec x y), .string Try.prog T⟩
theorem neqStr (T : TypeId) : NeqAt Try.prog T Value.string (fun x y => decide (x = y)) := ⟨fun x y w => by rw [(NeqAt.string Try.prog T).1 x y w]; exact congrArg (fun b => Result.ok (Value.bool !b) w) (str_dec x y), .string Try.prog T⟩
theorem compact_short (l : List ByteArray) (h : l.length < 2) : Lib.compact l = l := Lib.compact_all l fun j hj => Lib.keeps_lt_one _ j (by omega)
set_option maxRecDepth 100000 in
theorem compact_ok {w : World} {F : Nat → Prop} {a : Option Addr} {n c : Nat} {l : List ByteArray} (h : Ow w F 9 eStr (.slice a n c) l) (hb : n * 16 ≤ 140737488355328) :
    Calls Try.prog 77 #[.slice a n c] w fun e w' => ∃ n', e = .returned (.slice a n' c) ∧ Ow w' F 9 eStr (.slice a n' c) (Lib.compact l) ∧ Frm F w w' := by
  obtain ⟨hn, hnc⟩ := h.cap
  rcases Nat.lt_or_ge n 2 with h2 | h2
  · rw [compact_short l (by omega)]
    clear hn
    go_enter Try.func77, Try.ntmps77
    go_wp2
    go_ret
    exact ⟨n, rfl, h, Frm.refl _ _⟩
  · obtain ⟨g, row, rfl, hB, hF, -, -, hcm, hrs, htk⟩ := h.cases (by omega)
    have hown : w.ownsRow 0 9 1 (.slice (some ⟨g, 0, none⟩) n c) n (l.map Value.string) := by
      rcases h with ⟨a', e, -⟩ | ⟨h, -⟩
      · simp only [Value.slice.injEq] at e; omega
      · rw [flat_str, ← hn] at h; exact h
    obtain ⟨g', c', e, -, -, -, -, -, hH⟩ := holds_of_ownsRow hown (by intro e; cases e)
    simp only [Value.slice.injEq, Option.some.injEq, Addr.mk.injEq, and_true, true_and] at e
    obtain ⟨rfl, rfl⟩ := e
    have hsz : l.toArray.size = n := by rw [List.size_toArray]; exact hn.symm
    have hc := AnyE.slices_Compact Try.l77 Value.string (fun _ => rfl) (eqlStr _) (neqStr _) (⟨#[]⟩ : ByteArray) Try.zeroValue9 g 0 c l.toArray w hH (by omega) (by omega)
    rw [hsz] at hc
    have hlc : (Lib.compactUpTo l.toArray n).length ≤ n := by
      unfold Lib.compactUpTo
      rw [List.length_map]
      exact Nat.le_trans (List.length_filter_le _ _) (Nat.le_of_eq List.length_range)
    have hcp : Lib.compact l = Lib.compactUpTo l.toArray n := by unfold Lib.compact; rw [hn]
    refine hc.mono ?_
    rintro e w' ⟨rfl, q, rfl⟩
    have o := ownsRow_putRow (q := q) (k := (Lib.compactUpTo l.toArray n).length) (ys := Lib.compactUpTo l.toArray n ++ List.replicate (n - (Lib.compactUpTo l.toArray n).length) ⟨#[]⟩) hown (by rw [List.length_append, List.length_replicate]; omega) hlc
    rw [List.take_left' rfl, ← flat_str] at o
    refine ⟨_, rfl, ?_, ?_⟩
    · rw [hcp]
      exact .inr ⟨o, fun g' hg' => by obtain rfl := Option.some.inj hg'; exact hF⟩
    · refine ⟨rfl, rfl, rfl, by simp [Sort.putRow, Sort.mapBlock, Sort.ahead], fun k hk hkF => ?_⟩
      have hne : g ≠ k := fun e => hkF (e ▸ hF)
      simp [Sort.putRow, Sort.mapBlock, Sort.ahead, Array.getElem?_modify, hne]
/-- A set's values. -/
def valsOf (l : List En) : List ByteArray := Lib.compact (sortB (l.map fun e => e.2.2))
theorem map_step {l : List En} {i : Nat} {x : En} (h : i < l.length) (hx : Hid (x = l[i])) : (l.take (i + 1)).map (fun e => e.2.2) = (l.take i).map (fun e => e.2.2) ++ [x.2.2] := by
  rw [List.take_succ_eq_append_getElem h, ← hx.out, List.map_append]; rfl
set_option maxHeartbeats 1000000 in
set_option maxRecDepth 100000 in
theorem values_ok {w : World} {c : CellV} {ve vl vs : Value} (h : CellR w c ve vl vs) (hb : CellB c) (hk : c.kind = 2) :
    Calls Try.prog 45 #[cval c ve vl vs] w fun e w' => ∃ a' n' c', e = .returned (.tuple #[.slice a' n' c', .int .i64 0]) ∧ Ow w' (Nw No w w') 9 eStr (.slice a' n' c') (valsOf c.ents) ∧ Frm No w w' := by
  obtain ⟨he, hl, hs⟩ := h
  obtain ⟨ae, ce, rfl⟩ := he.sh
  obtain ⟨al, cl, rfl⟩ := hl.sh
  obtain ⟨at_, cs, rfl⟩ := hs.sh
  unfold cval
  rw [hk]
  have HE := Lib.hid he
  have hb1 : c.ents.length * 32 ≤ 140737488351232 := hb.e
  clear he hl hs hk hb
  go_enter Try.func45, Try.ntmps45
  go_wp2
  go_loopg [4, 13] (c.ents.length + 1) (fun g ov iv wr => ∃ (i : Nat) (ao : Option Addr) (no co : Nat), iv = .int .i64 i ∧ ov = .slice ao no co ∧ i ≤ c.ents.length ∧ g = c.ents.length - i + 1 ∧ Frm No w wr ∧ w.heap.size + 1 ≤ wr.heap.size ∧
    Ow wr (fun k => w.heap.size + 1 ≤ k) 9 eStr (.slice ao no co) ((c.ents.take i).map fun e => e.2.2))
  case atStart => exact ⟨0, none, 0, 0, rfl, rfl, Nat.zero_le _, by omega, (Frm.refl No w).al _, by simp, Ow.nil _ _ _ _ _⟩
  case round =>
    obtain ⟨i, ao, no, co, rfl, rfl, hi, hg, F, hsz, O⟩ := hrel
    have hG := Lib.hid hg
    clear hg
    have hno : no = i := by have := O.cap.1; rw [List.length_map, List.length_take] at this; omega
    subst hno
    have hln : ((c.ents.take no).map fun e => e.2.2).length = no := by rw [List.length_map, List.length_take]; omega
    obtain ⟨L, hL⟩ : ∃ L, Hid (L = (c.ents.take no).map fun e => e.2.2) := ⟨_, Lib.hid rfl⟩
    rw [← hL.out] at O hln
    have HLN := Lib.hid hln
    clear hln
    by_cases hlt : no < c.ents.length
    · obtain ⟨b, off, rfl, hbl, hc⟩ := (HE.out.no F).at hlt
      have e0 : wr.cell? ⟨b, off + no * 3, none⟩ = some (.int .i64 c.ents[no].1) := hc 0 _ rfl
      have e1 : wr.cell? ⟨b, off + no * 3 + 1, none⟩ = some (.int .i64 c.ents[no].2.1) := hc 1 _ rfl
      have e2 : wr.cell? ⟨b, off + no * 3 + 2, none⟩ = some (.string c.ents[no].2.2) := hc 2 _ rfl
      clear hc
      obtain ⟨x, hx⟩ : ∃ x, Hid (x = c.ents[no]) := ⟨_, Lib.hid rfl⟩
      rw [← hx.out] at e0 e1 e2
      go_wp2_with (at_builtin; refine wpList_ap _ rfl (.tmp 17) (.tmp 20) 45 45 rfl 9 _ 16 Try.underlying45 i_str rfl ((O.al _).al _) ((RdS.litg _ eStr x.2.2 _ (g := wr.heap.size + 1) (by simp)).src Try.underlying45) rfl rfl rfl ?c1 ?c2 ?_)
      case c1 => rw [HLN.out]; unfold maxLen; omega
      case c2 => rw [HLN.out]; omega
      intro a' c' w1 o1 f1
      have F1 : Frm No w w1 := ((F.al _).al _).then f1 fun k hk hh => by omega
      have z1 : w.heap.size + 1 ≤ w1.heap.size := by have := f1.size; simp at this; omega
      rw [HLN.out] at o1 ⊢
      go_wp2
      go_roundg (c.ents.length - (no + 1) + 1)
      case measure => have := hG.out; omega
      case rel =>
        exact ⟨no + 1, a', no + 1, c', by go_num, rfl, by omega, rfl, F1, z1, by rw [map_step hlt hx, ← hL.out]; exact o1.mono fun k _ hh => by rcases hh with hh | hh; exact hh; have := hh.1; simp at this; omega⟩
    · have hii : ¬ ((no : Int) < c.ents.length) := by omega
      have hs1 := sort_ok O (by omega)
      have htk : L = c.ents.map fun e => e.2.2 := by rw [hL.out, List.take_of_length_le (by omega)]
      rw [htk] at hs1
      clear HLN htk
      go_wp2_with (fail)
      refine hs1.mono ?_
      rintro e w1 ⟨rfl, o1, f1⟩
      clear hs1
      go_wp2_with (fail)
      have hc1 := compact_ok o1 (by omega)
      refine hc1.mono ?_
      rintro e w2 ⟨n2, rfl, o2, f2⟩
      clear hc1
      go_wp2
      go_ret2
      exact ⟨ao, n2, co, rfl, o2.fin (by omega), (F.then f1 fun k hk hh => by omega).then f2 fun k hk hh => by omega⟩
set_option maxRecDepth 100000 in
theorem values_bad {w : World} {c : CellV} {ve vl vs : Value} (h : CellR w c ve vl vs) (hk : c.kind ≠ 2) :
    Calls Try.prog 45 #[cval c ve vl vs] w fun e w' => e = .returned (.tuple #[.slice none 0 0, .int .i64 900]) ∧ Frm No w w' := by
  unfold cval
  go_enter Try.func45, Try.ntmps45
  go_wp2
  go_ret2
  exact ⟨rfl, (Frm.refl No w).al _⟩
set_option maxRecDepth 100000 in
theorem dots_bad {w : World} {c : CellV} {ve vl vs : Value} (h : CellR w c ve vl vs) (hk : c.kind ≠ 2) (v : ByteArray) :
    Calls Try.prog 47 #[cval c ve vl vs, .string v] w fun e w' => e = .returned (.tuple #[.slice none 0 0, .int .i64 900]) ∧ Frm No w w' := by
  unfold cval
  go_enter Try.func47, Try.ntmps47
  go_wp2
  go_ret2
  exact ⟨rfl, (Frm.refl No w).al _⟩
set_option maxRecDepth 100000 in
theorem drop_bad {w : World} {c : CellV} {ve vl vs : Value} (h : CellR w c ve vl vs) (hk : c.kind ≠ 2) (a : Option Addr) (n m : Nat) :
    Calls Try.prog 43 #[cval c ve vl vs, .slice a n m] w fun e w' => e = .returned (.tuple #[zval, .int .i64 900]) ∧ Frm No w w' := by
  obtain ⟨ae, ce, rfl⟩ := h.e.sh
  obtain ⟨al, cl, rfl⟩ := h.l.sh
  obtain ⟨at_, cs, rfl⟩ := h.s.sh
  unfold cval
  have C0 : (((w.alloc (.cells #[.int .i64 c.kind, .bool c.set, .int .i64 c.st.1, .int .i64 c.st.2, .string c.value, .int .i64 c.num.1, .int .i64 c.num.2, .slice ae c.ents.length ce, .slice al c.elems.length cl, .slice at_ c.seen.length cs] 59)).alloc (.cells #[.slice a n m] 62)).alloc (.cells zlist.toArray 59)).heap[w.heap.size + 2]? = some (.cells zlist.toArray 59 (0, 0)) := al_at (by simp)
  have F0 : Frm No w (((w.alloc (.cells #[.int .i64 c.kind, .bool c.set, .int .i64 c.st.1, .int .i64 c.st.2, .string c.value, .int .i64 c.num.1, .int .i64 c.num.2, .slice ae c.ents.length ce, .slice al c.elems.length cl, .slice at_ c.seen.length cs] 59)).alloc (.cells #[.slice a n m] 62)).alloc (.cells zlist.toArray 59)) := (((Frm.refl No w).al _).al _).al _
  clear h
  go_enter Try.func43, Try.ntmps43
  go_wp2_with (refine wpList_sto _ rfl (.tmp 4) (.tmp 9) 59 rfl C0 (by kernel_rfl) (by rfl) zone rfl rfl ?_)
  intro w7 C7 f7 z7
  obtain ⟨t0, t1, t2, t3, t4, t5, t6, t7, t8, t9⟩ := obj10 C7
  go_wp2
  refine bodyPost_ret (v := .tuple #[zval, .int .i64 900]) (by simp [results, Try.results43, go_sem, zval, *]) rfl ?_
  exact ⟨rfl, F0.then f7 fun k hk e => by omega⟩
end Go.Proofs.Ytheejjifcpjdbaa

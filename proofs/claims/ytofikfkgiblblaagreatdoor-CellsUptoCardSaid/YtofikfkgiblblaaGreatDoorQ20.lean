/- Merged: LaySort Vals Law9. -/
import Derived.Test.YtofikfkgiblblaaGreatDoorProg
import Derived.Shelf.SortM.Plain
import Derived.Shelf.SortM.SortNone
import Derived.Shelf.SlicesE.Compact
import Derived.Sort.OwnSorted
import Derived.Lib.OwnBridge
import Derived.Test.YtofikfkgiblblaaGreatDoorQ11
import Derived.Test.YtofikfkgiblblaaGreatDoorQ18
/- The layings of slices.Sort and slices.Compact at strings (printed by lay.py for this seat). -/
namespace Go.Proofs
set_option linter.unusedVariables false
set_option linter.unusedSimpArgs false
set_option linter.unusedVariables false
set_option linter.unusedSimpArgs false
open Go.Shelf
def Tryz.l76_ren : Go.Shelf.Ren := ⟨fun | 6 => 88 | 8 => 125 | 9 => 124 | 19 => 156 | 20 => 157 | 21 => 147 | 22 => 148 | 23 => 149 | 24 => 150 | 25 => 151 | 26 => 152 | 27 => 153 | 28 => 154 | 29 => 155 | 36 => 167 | 31 => 168 | 32 => 169 | 37 => 170 | 38 => 171 | 39 => 172 | 41 => 180 | n => n, fun | 27 => 65 | 29 => 9 | 3 => 3 | 32 => 60 | 26 => 65 | 0 => 0 | 44 => 184 | 46 => 158 | 4 => 4 | 36 => 178 | 35 => 177 | 41 => 144 | 5 => 5 | 9 => 9 | 53 => 191 | 57 => 195 | 63 => 204 | 64 => 205 | n => n, fun | n => n⟩
theorem Tryz.l76 : Go.Proofs.SlLaysM.n6 Tryz.prog Tryz.l76_ren := {
  mixed := by kernel_rfl
  f6 := ⟨Tryz.f88.name, by decide, Tryz.func88.trans (congrArg some (by kernel_rfl))⟩
  f8 := Tryz.func125.trans (congrArg some (by kernel_rfl))
  f9 := ⟨Tryz.f124.name, by decide, Tryz.func124.trans (congrArg some (by kernel_rfl))⟩
  f19 := Tryz.func156.trans (congrArg some (by kernel_rfl))
  f20 := Tryz.func157.trans (congrArg some (by kernel_rfl))
  f21 := ⟨Tryz.f147.name, by decide, Tryz.func147.trans (congrArg some (by kernel_rfl))⟩
  f22 := ⟨Tryz.f148.name, by decide, Tryz.func148.trans (congrArg some (by kernel_rfl))⟩
  f23 := ⟨Tryz.f149.name, by decide, Tryz.func149.trans (congrArg some (by kernel_rfl))⟩
  f24 := ⟨Tryz.f150.name, by decide, Tryz.func150.trans (congrArg some (by kernel_rfl))⟩
  f25 := ⟨Tryz.f151.name, by decide, Tryz.func151.trans (congrArg some (by kernel_rfl))⟩
  f26 := ⟨Tryz.f152.name, by decide, Tryz.func152.trans (congrArg some (by kernel_rfl))⟩
  f27 := ⟨Tryz.f153.name, by decide, Tryz.func153.trans (congrArg some (by kernel_rfl))⟩
  f28 := ⟨Tryz.f154.name, by decide, Tryz.func154.trans (congrArg some (by kernel_rfl))⟩
  f29 := ⟨Tryz.f155.name, by decide, Tryz.func155.trans (congrArg some (by kernel_rfl))⟩
  f31 := Tryz.func168.trans (congrArg some (by kernel_rfl))
  f32 := Tryz.func169.trans (congrArg some (by kernel_rfl))
  f36 := ⟨Tryz.f167.name, by decide, Tryz.func167.trans (congrArg some (by kernel_rfl))⟩
  f37 := ⟨Tryz.f170.name, by decide, Tryz.func170.trans (congrArg some (by kernel_rfl))⟩
  f38 := ⟨Tryz.f171.name, by decide, Tryz.func171.trans (congrArg some (by kernel_rfl))⟩
  f39 := ⟨Tryz.f172.name, by decide, Tryz.func172.trans (congrArg some (by kernel_rfl))⟩
  f41 := ⟨Tryz.f180.name, by decide, Tryz.func180.trans (congrArg some (by kernel_rfl))⟩
  t0 := Tryz.underlying0
  a0 := Tryz.isAgg0
  z0 := Tryz.sizeOf0
  v0 := Tryz.zeroValue0
  t3 := Tryz.underlying3
  a3 := Tryz.isAgg3
  z3 := Tryz.sizeOf3
  v3 := Tryz.zeroValue3
  t4 := Tryz.underlying4
  a4 := Tryz.isAgg4
  z4 := Tryz.sizeOf4
  v4 := Tryz.zeroValue4
  t5 := Tryz.underlying5
  a5 := Tryz.isAgg5
  z5 := Tryz.sizeOf5
  v5 := Tryz.zeroValue5
  t9 := Tryz.underlying9
  a9 := Tryz.isAgg9
  z9 := Tryz.sizeOf9
  v9 := Tryz.zeroValue9
  t26 := Tryz.underlying65
  a26 := Tryz.isAgg65
  z26 := Tryz.sizeOf65
  v26 := Tryz.zeroValue65
  t27 := Tryz.underlying65
  a27 := Tryz.isAgg65
  z27 := Tryz.sizeOf65
  v27 := Tryz.zeroValue65
  t29 := Tryz.underlying9
  a29 := Tryz.isAgg9
  z29 := Tryz.sizeOf9
  v29 := Tryz.zeroValue9
  t32 := Tryz.underlying60
  a32 := Tryz.isAgg60
  z32 := Tryz.sizeOf60
  v32 := Tryz.zeroValue60
  t35 := Tryz.underlying177
  a35 := Tryz.isAgg177
  z35 := Tryz.sizeOf177
  v35 := Tryz.zeroValue177
  t36 := Tryz.underlying178
  a36 := Tryz.isAgg178
  z36 := Tryz.sizeOf178
  v36 := Tryz.zeroValue178
  t41 := Tryz.underlying144
  a41 := Tryz.isAgg144
  z41 := Tryz.sizeOf144
  v41 := Tryz.zeroValue144
  t44 := Tryz.underlying184
  a44 := Tryz.isAgg184
  z44 := Tryz.sizeOf184
  v44 := Tryz.zeroValue184
  t46 := Tryz.underlying158
  a46 := Tryz.isAgg158
  z46 := Tryz.sizeOf158
  v46 := Tryz.zeroValue158
  t53 := Tryz.underlying191
  a53 := Tryz.isAgg191
  z53 := Tryz.sizeOf191
  v53 := Tryz.zeroValue191
  t57 := Tryz.underlying195
  a57 := Tryz.isAgg195
  z57 := Tryz.sizeOf195
  v57 := Tryz.zeroValue195
  t63 := Tryz.underlying204
  a63 := Tryz.isAgg204
  z63 := Tryz.sizeOf204
  v63 := Tryz.zeroValue204
  t64 := Tryz.underlying205
  a64 := Tryz.isAgg205
  z64 := Tryz.sizeOf205
  v64 := Tryz.zeroValue205 }
def Tryz.l77_ren : Go.Shelf.Ren := ⟨fun | 43 => 89 | n => n, fun | 22 => 65 | 23 => 9 | 3 => 3 | 4 => 4 | 0 => 0 | n => n, fun | n => n⟩
theorem Tryz.l77 : Go.Proofs.SlLaysE.n43 Tryz.prog Tryz.l77_ren := {
  mixed := by kernel_rfl
  f43 := ⟨Tryz.f89.name, by decide, Tryz.func89.trans (congrArg some (by kernel_rfl))⟩
  t0 := Tryz.underlying0
  a0 := Tryz.isAgg0
  z0 := Tryz.sizeOf0
  v0 := Tryz.zeroValue0
  t3 := Tryz.underlying3
  a3 := Tryz.isAgg3
  z3 := Tryz.sizeOf3
  v3 := Tryz.zeroValue3
  t4 := Tryz.underlying4
  a4 := Tryz.isAgg4
  z4 := Tryz.sizeOf4
  v4 := Tryz.zeroValue4
  t22 := Tryz.underlying65
  a22 := Tryz.isAgg65
  z22 := Tryz.sizeOf65
  v22 := Tryz.zeroValue65
  a23 := Tryz.isAgg9
  z23 := Tryz.sizeOf9 }
end Go.Proofs

/- Sets: orset.Values. -/
namespace Go.Proofs.YtofikfkgiblblaaGreatDoor
set_option linter.unusedVariables false
set_option linter.unusedSimpArgs false
open Go.RowKit Go.Lib Go.Tt Go.Shelf
/-- Texts by their bytes. -/
def sortB (l : List ByteArray) : List ByteArray := ((l.map (·.data.toList)).mergeSort fun x y => decide (x ≤ y)).map fun b => ⟨b.toArray⟩
theorem sortB_len (l : List ByteArray) : (sortB l).length = l.length := by simp [sortB]
theorem flat_str (l : List ByteArray) : eStr.flat l = l.map Value.string := by
  induction l with
  | nil => rfl
  | cons x l ih => rw [eStr.flat_cons, ih]; rfl
theorem enc_str (l : List (List UInt8)) : l.map encStr = eStr.flat (l.map fun b => (⟨b.toArray⟩ : ByteArray)) := by
  rw [flat_str, List.map_map]
  rfl
theorem enc_of (l : List ByteArray) : (l.map (·.data.toList)).map encStr = eStr.flat l := by rw [flat_str]; exact map_encStr l
theorem sort_ok {w : World} {F : Nat → Prop} {a : Option Addr} {n c : Nat} {l : List ByteArray} (h : Ow w F 9 eStr (.slice a n c) l) (hb : n * 16 ≤ 140737488355328) :
    Calls Tryz.prog 88 #[.slice a n c] w fun e w' => e = .returned (.tuple #[]) ∧ Ow w' F 9 eStr (.slice a n c) (sortB l) ∧ Frm F w w' := by
  rcases Nat.eq_zero_or_pos n with h0 | h0
  · subst h0
    have hl : l = [] := List.eq_nil_of_length_eq_zero h.cap.1.symm
    subst hl
    refine (AnyM.slices_Sort_string_none Tryz.l76 a c w).mono ?_
    rintro e w' ⟨rfl, rfl⟩
    exact ⟨rfl, by rw [show sortB [] = [] by simp [sortB]]; exact h, Frm.refl _ _⟩
  · obtain ⟨g, row, rfl, hB, hF, hn, hnc, hcm, hrs, htk⟩ := h.cases h0
    have htk' : row.toList.take (l.map (·.data.toList)).length = (l.map (·.data.toList)).map encStr := by
      rw [enc_of, List.length_map]
      rw [show l.length = l.length * eStr.k from (Nat.mul_one _).symm]
      exact htk
    have hc := AnyM.slices_Sort_string Tryz.l76 g 0 c (l.map (·.data.toList)) w (holds_of_block hB htk') (lt_of_block hB) (by rw [List.length_map]; omega)
    rw [List.length_map, ← hn] at hc
    refine hc.mono ?_
    rintro e w' ⟨rfl, m, os, rfl⟩
    have hl : ((l.map (·.data.toList)).mergeSort fun x y => decide (x ≤ y)).length = (l.map (·.data.toList)).length := by simp
    have o := ownsRow_sorted (base := 0) (n := m) (os := os) (cap := c) hl (Nat.zero_le _) hB (by rw [List.length_map]; omega) hcm hrs
    rw [enc_str, List.length_map, ← hn] at o
    refine ⟨rfl, .inr ⟨?_, fun g' hg' => by obtain rfl := Option.some.inj hg'; exact hF⟩, (Frm.of_grown (grownBy_sorted _)).mono fun k _ e => by obtain rfl := Option.some.inj e; exact hF⟩
    rw [sortB_len, ← hn]
    exact o
theorem str_dec (x y : ByteArray) : (x.toList == y.toList) = decide (x = y) := by
  cases h : x.toList == y.toList with
  | true => rw [decide_eq_true (str_eq h)]
  | false => rw [decide_eq_false (str_ne h)]
theorem eqlStr (T : TypeId) : EqlAt Tryz.prog T Value.string (fun x y => decide (x = y)) := ⟨fun x y w => by rw [(EqlAt.string Tryz.prog T).1 x y w]; exact congrArg (fun b => Result.ok (Value.bool b) w) (str_dec x y), .string Tryz.prog T⟩
theorem neqStr (T : TypeId) : NeqAt Tryz.prog T Value.string (fun x y => decide (x = y)) := ⟨fun x y w => by rw [(NeqAt.string Tryz.prog T).1 x y w]; exact congrArg (fun b => Result.ok (Value.bool !b) w) (str_dec x y), .string Tryz.prog T⟩
theorem compact_short (l : List ByteArray) (h : l.length < 2) : Lib.compact l = l := Lib.compact_all l fun j hj => Lib.keeps_lt_one _ j (by omega)
set_option maxRecDepth 100000 in
theorem compact_ok {w : World} {F : Nat → Prop} {a : Option Addr} {n c : Nat} {l : List ByteArray} (h : Ow w F 9 eStr (.slice a n c) l) (hb : n * 16 ≤ 140737488355328) :
    Calls Tryz.prog 89 #[.slice a n c] w fun e w' => ∃ n', e = .returned (.slice a n' c) ∧ Ow w' F 9 eStr (.slice a n' c) (Lib.compact l) ∧ Frm F w w' := by
  obtain ⟨hn, hnc⟩ := h.cap
  rcases Nat.lt_or_ge n 2 with h2 | h2
  · rw [compact_short l (by omega)]
    clear hn
    go_enter Tryz.func89, Tryz.ntmps89
    go_wp2
    go_ret
    exact ⟨n, rfl, h, Frm.refl _ _⟩
  · obtain ⟨g, row, rfl, hB, hF, -, -, hcm, hrs, htk⟩ := h.cases (by omega)
    have hown : w.ownsRow 0 9 1 (.slice (some ⟨g, 0, none⟩) n c) n (l.map Value.string) := by
      rcases h with ⟨a', e, -⟩ | ⟨h, -⟩
      · simp only [Value.slice.injEq] at e; omega
      · rw [flat_str, ← hn] at h; exact h
    obtain ⟨g', c', e, -, -, -, -, -, hH⟩ := holds_of_ownsRow hown (by intro e; cases e)
    simp only [Value.slice.injEq, Option.some.injEq, Addr.mk.injEq, and_true, true_and] at e
    obtain ⟨rfl, rfl⟩ := e
    have hsz : l.toArray.size = n := by rw [List.size_toArray]; exact hn.symm
    have hc := AnyE.slices_Compact Tryz.l77 Value.string (fun _ => rfl) (eqlStr _) (neqStr _) (⟨#[]⟩ : ByteArray) Tryz.zeroValue9 g 0 c l.toArray w hH (by omega) (by omega)
    rw [hsz] at hc
    have hlc : (Lib.compactUpTo l.toArray n).length ≤ n := by
      unfold Lib.compactUpTo
      rw [List.length_map]
      exact Nat.le_trans (List.length_filter_le _ _) (Nat.le_of_eq List.length_range)
    have hcp : Lib.compact l = Lib.compactUpTo l.toArray n := by unfold Lib.compact; rw [hn]
    refine hc.mono ?_
    rintro e w' ⟨rfl, q, rfl⟩
    have o := ownsRow_putRow (q := q) (k := (Lib.compactUpTo l.toArray n).length) (ys := Lib.compactUpTo l.toArray n ++ List.replicate (n - (Lib.compactUpTo l.toArray n).length) ⟨#[]⟩) hown (by rw [List.length_append, List.length_replicate]; omega) hlc
    rw [List.take_left' rfl, ← flat_str] at o
    refine ⟨_, rfl, ?_, ?_⟩
    · rw [hcp]
      exact .inr ⟨o, fun g' hg' => by obtain rfl := Option.some.inj hg'; exact hF⟩
    · refine ⟨rfl, rfl, rfl, by simp [Sort.putRow, Sort.mapBlock, Sort.ahead], fun k hk hkF => ?_⟩
      have hne : g ≠ k := fun e => hkF (e ▸ hF)
      simp [Sort.putRow, Sort.mapBlock, Sort.ahead, Array.getElem?_modify, hne]
/-- A set's values. -/
def valsOf (l : List En) : List ByteArray := Lib.compact (sortB (l.map fun e => e.2.2))
theorem map_step {l : List En} {i : Nat} {x : En} (h : i < l.length) (hx : Hid (x = l[i])) : (l.take (i + 1)).map (fun e => e.2.2) = (l.take i).map (fun e => e.2.2) ++ [x.2.2] := by
  rw [List.take_succ_eq_append_getElem h, ← hx.out, List.map_append]; rfl
set_option maxHeartbeats 1000000 in
set_option maxRecDepth 100000 in
theorem values_ok {w : World} {c : CellV} {ve vl vs : Value} (h : CellR w c ve vl vs) (hb : CellB c) (hk : c.kind = 2) :
    Calls Tryz.prog 38 #[cval c ve vl vs] w fun e w' => ∃ a' n' c', e = .returned (.tuple #[.slice a' n' c', .int .i64 0]) ∧ Ow w' (Nw No w w') 9 eStr (.slice a' n' c') (valsOf c.ents) ∧ Frm No w w' := by
  obtain ⟨he, hl, hs⟩ := h
  obtain ⟨ae, ce, rfl⟩ := he.sh
  obtain ⟨al, cl, rfl⟩ := hl.sh
  obtain ⟨at_, cs, rfl⟩ := hs.sh
  unfold cval
  rw [hk]
  have HE := Lib.hid he
  have hb1 : c.ents.length * 32 ≤ 140737488351232 := hb.e
  clear he hl hs hk hb
  go_enter Tryz.func38, Tryz.ntmps38
  go_wp2
  go_loopg [4, 13] (c.ents.length + 1) (fun g ov iv wr => ∃ (i : Nat) (ao : Option Addr) (no co : Nat), iv = .int .i64 i ∧ ov = .slice ao no co ∧ i ≤ c.ents.length ∧ g = c.ents.length - i + 1 ∧ Frm No w wr ∧ w.heap.size + 1 ≤ wr.heap.size ∧
    Ow wr (fun k => w.heap.size + 1 ≤ k) 9 eStr (.slice ao no co) ((c.ents.take i).map fun e => e.2.2))
  case atStart => exact ⟨0, none, 0, 0, rfl, rfl, Nat.zero_le _, by omega, (Frm.refl No w).al _, by simp, Ow.nil _ _ _ _ _⟩
  case round =>
    obtain ⟨i, ao, no, co, rfl, rfl, hi, hg, F, hsz, O⟩ := hrel
    have hG := Lib.hid hg
    clear hg
    have hno : no = i := by have := O.cap.1; rw [List.length_map, List.length_take] at this; omega
    subst hno
    have hln : ((c.ents.take no).map fun e => e.2.2).length = no := by rw [List.length_map, List.length_take]; omega
    obtain ⟨L, hL⟩ : ∃ L, Hid (L = (c.ents.take no).map fun e => e.2.2) := ⟨_, Lib.hid rfl⟩
    rw [← hL.out] at O hln
    have HLN := Lib.hid hln
    clear hln
    by_cases hlt : no < c.ents.length
    · obtain ⟨b, off, rfl, hbl, hc⟩ := (HE.out.no F).at hlt
      have e0 : wr.cell? ⟨b, off + no * 3, none⟩ = some (.int .i64 c.ents[no].1) := hc 0 _ rfl
      have e1 : wr.cell? ⟨b, off + no * 3 + 1, none⟩ = some (.int .i64 c.ents[no].2.1) := hc 1 _ rfl
      have e2 : wr.cell? ⟨b, off + no * 3 + 2, none⟩ = some (.string c.ents[no].2.2) := hc 2 _ rfl
      clear hc
      obtain ⟨x, hx⟩ : ∃ x, Hid (x = c.ents[no]) := ⟨_, Lib.hid rfl⟩
      rw [← hx.out] at e0 e1 e2
      go_wp2_with (at_builtin; refine wpList_ap _ rfl (.tmp 17) (.tmp 20) 65 65 rfl 9 _ 16 Tryz.underlying65 i_str rfl ((O.al _).al _) ((RdS.litg _ eStr x.2.2 _ (g := wr.heap.size + 1) (by simp)).src Tryz.underlying65) rfl rfl rfl ?c1 ?c2 ?_)
      case c1 => rw [HLN.out]; unfold maxLen; omega
      case c2 => rw [HLN.out]; omega
      intro a' c' w1 o1 f1
      have F1 : Frm No w w1 := ((F.al _).al _).then f1 fun k hk hh => by omega
      have z1 : w.heap.size + 1 ≤ w1.heap.size := by have := f1.size; simp at this; omega
      rw [HLN.out] at o1 ⊢
      go_wp2
      go_roundg (c.ents.length - (no + 1) + 1)
      case measure => have := hG.out; omega
      case rel =>
        exact ⟨no + 1, a', no + 1, c', by go_num, rfl, by omega, rfl, F1, z1, by rw [map_step hlt hx, ← hL.out]; exact o1.mono fun k _ hh => by rcases hh with hh | hh; exact hh; have := hh.1; simp at this; omega⟩
    · have hii : ¬ ((no : Int) < c.ents.length) := by omega
      have hs1 := sort_ok O (by omega)
      have htk : L = c.ents.map fun e => e.2.2 := by rw [hL.out, List.take_of_length_le (by omega)]
      rw [htk] at hs1
      clear HLN htk
      go_wp2_with (fail)
      refine hs1.mono ?_
      rintro e w1 ⟨rfl, o1, f1⟩
      clear hs1
      go_wp2_with (fail)
      have hc1 := compact_ok o1 (by omega)
      refine hc1.mono ?_
      rintro e w2 ⟨n2, rfl, o2, f2⟩
      clear hc1
      go_wp2
      go_ret2
      exact ⟨ao, n2, co, rfl, o2.fin (by omega), (F.then f1 fun k hk hh => by omega).then f2 fun k hk hh => by omega⟩
set_option maxRecDepth 100000 in
theorem values_bad {w : World} {c : CellV} {ve vl vs : Value} (h : CellR w c ve vl vs) (hk : c.kind ≠ 2) :
    Calls Tryz.prog 38 #[cval c ve vl vs] w fun e w' => e = .returned (.tuple #[.slice none 0 0, .int .i64 900]) ∧ Frm No w w' := by
  unfold cval
  go_enter Tryz.func38, Tryz.ntmps38
  go_wp2
  go_ret2
  exact ⟨rfl, (Frm.refl No w).al _⟩
set_option maxRecDepth 100000 in
theorem drop_bad {w : World} {c : CellV} {ve vl vs : Value} (h : CellR w c ve vl vs) (hk : c.kind ≠ 2) (a : Option Addr) (n m : Nat) :
    Calls Tryz.prog 69 #[cval c ve vl vs, .slice a n m] w fun e w' => e = .returned (.tuple #[zval, .int .i64 900]) ∧ Frm No w w' := by
  obtain ⟨ae, ce, rfl⟩ := h.e.sh
  obtain ⟨al, cl, rfl⟩ := h.l.sh
  obtain ⟨at_, cs, rfl⟩ := h.s.sh
  unfold cval
  have C0 : (((w.alloc (.cells #[.int .i64 c.kind, .bool c.set, .int .i64 c.st.1, .int .i64 c.st.2, .string c.value, .int .i64 c.num.1, .int .i64 c.num.2, .slice ae c.ents.length ce, .slice al c.elems.length cl, .slice at_ c.seen.length cs] 30)).alloc (.cells #[.slice a n m] 33)).alloc (.cells zlist.toArray 30)).heap[w.heap.size + 2]? = some (.cells zlist.toArray 30 (0, 0)) := al_at (by simp)
  have F0 : Frm No w (((w.alloc (.cells #[.int .i64 c.kind, .bool c.set, .int .i64 c.st.1, .int .i64 c.st.2, .string c.value, .int .i64 c.num.1, .int .i64 c.num.2, .slice ae c.ents.length ce, .slice al c.elems.length cl, .slice at_ c.seen.length cs] 30)).alloc (.cells #[.slice a n m] 33)).alloc (.cells zlist.toArray 30)) := (((Frm.refl No w).al _).al _).al _
  clear h
  go_enter Tryz.func69, Tryz.ntmps69
  go_wp2_with (refine wpList_sto _ rfl (.tmp 4) (.tmp 9) 30 rfl C0 (by kernel_rfl) (by rfl) zone rfl rfl ?_)
  intro w7 C7 f7 z7
  obtain ⟨t0, t1, t2, t3, t4, t5, t6, t7, t8, t9⟩ := obj10 C7
  go_wp2
  refine bodyPost_ret (v := .tuple #[zval, .int .i64 900]) (by simp [results, Tryz.results69, go_sem, zval, *]) rfl ?_
  exact ⟨rfl, F0.then f7 fun k hk e => by omega⟩
end Go.Proofs.YtofikfkgiblblaaGreatDoor

/- Sets' plain laws: values in their row, each once. No program in sight. -/
namespace Go.Proofs.YtofikfkgiblblaaGreatDoor
set_option linter.unusedVariables false
set_option linter.unusedSimpArgs false
open Go.RowKit Go.Lib Go.Tt
/-- A text's bytes come ahead of another's. -/
def ltB (x y : ByteArray) : Prop := x.data.toList < y.data.toList
theorem leL_trans (a b c : List UInt8) (h1 : decide (a ≤ b) = true) (h2 : decide (b ≤ c) = true) : decide (a ≤ c) = true := decide_eq_true (List.le_trans (of_decide_eq_true h1) (of_decide_eq_true h2))
theorem leL_total (a b : List UInt8) : (decide (a ≤ b) || decide (b ≤ a)) = true := by
  rcases List.le_total (α := UInt8) a b with h | h <;> simp [h]
theorem sort_pw (l : List (List UInt8)) : (l.mergeSort fun x y => decide (x ≤ y)).Pairwise fun x y => x ≤ y :=
  (List.pairwise_mergeSort leL_trans leL_total l).imp fun h => of_decide_eq_true h
theorem ltL_of {a b : List UInt8} (h : a ≤ b) (hne : a ≠ b) : a < b := by
  rcases Classical.em (a < b) with h' | h'
  · exact h'
  · exact absurd (List.le_antisymm h (List.not_lt.1 h')) hne
theorem data_inj {x y : ByteArray} (h : x.data.toList = y.data.toList) : x = y := by
  cases x; cases y; simp_all [Array.toList_inj]
theorem sortB_pw (l : List ByteArray) : (sortB l).Pairwise fun x y => x.data.toList ≤ y.data.toList := by
  unfold sortB
  rw [List.pairwise_map]
  exact (sort_pw _).imp fun h => by simpa using h
theorem mem_sortB {l : List ByteArray} {x : ByteArray} : x ∈ sortB l ↔ x ∈ l := by
  unfold sortB
  simp only [List.mem_map, List.mem_mergeSort]
  constructor
  · rintro ⟨b, ⟨y, hy, rfl⟩, rfl⟩
    have : (⟨y.data.toList.toArray⟩ : ByteArray) = y := by simp
    rw [this]; exact hy
  · intro h
    exact ⟨_, ⟨x, h, rfl⟩, by simp⟩
theorem get!_of {l : List ByteArray} {j : Nat} (h : j < l.length) : l.toArray[j]! = l[j] := by simp [h]
theorem mem_compact {l : List ByteArray} {x : ByteArray} : x ∈ Lib.compact l ↔ x ∈ l := by
  unfold Lib.compact Lib.compactUpTo
  simp only [List.mem_map, List.mem_filter, List.mem_range]
  constructor
  · rintro ⟨j, ⟨hj, -⟩, rfl⟩
    rw [get!_of hj]; exact List.getElem_mem hj
  · intro h
    obtain ⟨j0, hj0, e0⟩ := List.getElem_of_mem h
    have key : ∀ (j : Nat) (hj : j < l.length), l[j] = x → ∃ k, (k < l.length ∧ Lib.keeps l.toArray k = true) ∧ l.toArray[k]! = x := by
      intro j
      induction j with
      | zero => intro hj e; exact ⟨0, ⟨hj, by simp [Lib.keeps]⟩, by rw [get!_of hj, e]⟩
      | succ j ih =>
        intro hj e
        by_cases h1 : l[j] = x
        · exact ih (by omega) h1
        · refine ⟨j + 1, ⟨hj, ?_⟩, by rw [get!_of hj, e]⟩
          unfold Lib.keeps
          refine decide_eq_true (.inr ?_)
          rw [get!_of hj, get!_of (by omega : j + 1 - 1 < l.length), e]
          exact fun e' => h1 e'.symm
    exact key j0 hj0 e0
theorem compact_pw {l : List ByteArray} (h : l.Pairwise fun x y => x.data.toList ≤ y.data.toList) : (Lib.compact l).Pairwise ltB := by
  unfold Lib.compact Lib.compactUpTo
  rw [List.pairwise_map]
  have hr : (List.range l.length).Pairwise (· < ·) := List.pairwise_lt_range
  refine List.Pairwise.imp_of_mem (R := fun i j => i < j) ?_ (hr.filter _)
  intro i j hi hj hij
  obtain ⟨hj1, hj2⟩ := List.mem_filter.1 hj
  have hjl := List.mem_range.1 hj1
  have hk := of_decide_eq_true hj2
  rcases hk with hk | hk
  · omega
  · rw [get!_of hjl, get!_of (by omega : j - 1 < l.length)] at hk
    rw [get!_of hjl, get!_of (by omega : i < l.length)]
    have hp := List.pairwise_iff_getElem.1 h
    have h1 : l[j - 1].data.toList ≤ l[j].data.toList := hp _ _ _ _ (by omega)
    have h2 : l[j - 1].data.toList < l[j].data.toList := ltL_of h1 fun e => hk (data_inj e.symm)
    rcases Nat.lt_or_ge i (j - 1) with h3 | h3
    · have h4 : l[i].data.toList ≤ l[j - 1].data.toList := hp _ _ _ _ h3
      exact List.lt_of_le_of_lt h4 h2
    · have : i = j - 1 := by omega
      subst this
      exact h2
theorem valsOf_pw (l : List En) : (valsOf l).Pairwise ltB := compact_pw (sortB_pw _)
theorem mem_valsOf {l : List En} {x : ByteArray} : x ∈ valsOf l ↔ ∃ e ∈ l, e.2.2 = x := by
  unfold valsOf
  rw [mem_compact, mem_sortB, List.mem_map]
theorem ltB_irrefl (x : ByteArray) : ¬ ltB x x := List.lt_irrefl _
theorem ltB_asymm {x y : ByteArray} (h : ltB x y) : ¬ ltB y x := List.lt_asymm h
/-- One row of texts has just one strict order. -/
theorem pw_unique : ∀ {a b : List ByteArray}, a.Pairwise ltB → b.Pairwise ltB → (∀ x, x ∈ a ↔ x ∈ b) → a = b := by
  intro a
  induction a with
  | nil =>
    intro b _ _ h
    cases b with
    | nil => rfl
    | cons y b => exact absurd ((h y).2 (List.mem_cons_self)) (by simp)
  | cons x a ih =>
    intro b ha hb h
    cases b with
    | nil => exact absurd ((h x).1 (List.mem_cons_self)) (by simp)
    | cons y b =>
      obtain ⟨ha1, ha2⟩ := List.pairwise_cons.1 ha
      obtain ⟨hb1, hb2⟩ := List.pairwise_cons.1 hb
      have hxy : x = y := by
        rcases List.mem_cons.1 ((h x).1 List.mem_cons_self) with e | e
        · exact e
        · rcases List.mem_cons.1 ((h y).2 List.mem_cons_self) with e' | e'
          · exact e'.symm
          · exact absurd (ha1 y e') (ltB_asymm (hb1 x e))
      subst hxy
      rw [ih ha2 hb2 fun z => ?_]
      have hz := h z
      simp only [List.mem_cons] at hz
      constructor
      · intro h1
        rcases hz.1 (.inr h1) with e | e
        · exact absurd (ha1 z h1) (e ▸ ltB_irrefl _)
        · exact e
      · intro h1
        rcases hz.2 (.inr h1) with e | e
        · exact absurd (hb1 z h1) (e ▸ ltB_irrefl _)
        · exact e
theorem valsOf_eq {l : List En} {m : List ByteArray} (hm : m.Pairwise ltB) (h : ∀ x, x ∈ m ↔ ∃ e ∈ l, e.2.2 = x) : valsOf l = m :=
  pw_unique (valsOf_pw l) hm fun x => mem_valsOf.trans (h x).symm
end Go.Proofs.YtofikfkgiblblaaGreatDoor

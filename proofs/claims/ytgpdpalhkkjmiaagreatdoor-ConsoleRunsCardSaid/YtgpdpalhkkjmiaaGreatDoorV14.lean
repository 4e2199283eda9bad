/- Merged: Both Rga5 Vec Vec2. -/
import Derived.Test.YtgpdpalhkkjmiaaGreatDoorV06
import Derived.Test.YtgpdpalhkkjmiaaGreatDoorV11
import Derived.Test.YtgpdpalhkkjmiaaGreatDoorV13
/- Sets: the program's answer and the document's are one. -/
namespace Go.Proofs.YtgpdpalhkkjmiaaGreatDoor
set_option linter.unusedVariables false
set_option linter.unusedSimpArgs false
set_option linter.unusedVariables false
set_option linter.unusedSimpArgs false
open Go.RowKit Go.Lib Go.Tt
def zeroC : CellV := ⟨0, false, (0, 0), ⟨#[]⟩, (0, 0), [], [], []⟩
theorem zeroC_o (W : World) (F : Nat → Prop) : CellO W F zeroC (.slice none 0 0) (.slice none 0 0) (.slice none 0 0) := ⟨Ow.nil _ _ _ _ _, Ow.nil _ _ _ _ _, Ow.nil _ _ _ _ _⟩
/-- A call answers with a cell of its own and a number. -/
def CP (C : CellV) (E : Int) (W : World) (e : Ending) (W' : World) : Prop :=
  ∃ ve vl vs, e = .returned (.tuple #[cval C ve vl vs, .int .i64 E]) ∧ CellO W' (Nw No W W') C ve vl vs ∧ Frm No W W'
def VP (L : List ByteArray) (E : Int) (W : World) (e : Ending) (W' : World) : Prop :=
  ∃ a n c, e = .returned (.tuple #[.slice a n c, .int .i64 E]) ∧ Ow W' (Nw No W W') 9 eStr (.slice a n c) L ∧ Frm No W W'
def DP (L : List Dt) (E : Int) (W : World) (e : Ending) (W' : World) : Prop :=
  ∃ a n c, e = .returned (.tuple #[.slice a n c, .int .i64 E]) ∧ Ow W' (Nw No W W') 83 eDt (.slice a n c) L ∧ Frm No W W'
theorem cp_zero {W : World} {e : Ending} {W' : World} (h : e = .returned (.tuple #[zval, .int .i64 900]) ∧ Frm No W W') : CP zeroC 900 W e W' := ⟨_, _, _, h.1, zeroC_o _ _, h.2⟩
theorem room_of {c : CellV} (hb : CellB c) : (c.ents.length + 1) * 32 ≤ 140737488355328 := by have h1 := hb.e; unfold reachBytes at h1; omega
theorem put_both {c : CellV} {d : Dt} {v : ByteArray} (hvm : v.size ≤ maxLen) (hb : CellB c) : ∃ C E, (∀ W ve vl vs, CellR W c ve vl vs → Calls Tryz.prog 72 #[cval c ve vl vs, .agg #[.int .i64 d.1, .int .i64 d.2], .string v] W (CP C E W)) ∧
    (∀ W ve vl vs, CellR W c ve vl vs → Calls Tryz.prog 35 #[cval c ve vl vs, .agg #[.int .i64 d.1, .int .i64 d.2], .string v] W (CP C E W)) := by
  by_cases hbad : c.kind ≠ 2 ∨ dotMay d = false ∨ 256 < v.size
  · exact ⟨zeroC, 900, fun W ve vl vs h => (put_bad h d v hvm (by rcases hbad with h | h | h; exact .inl h; exact .inr (.inl h); exact .inr (.inr (.inl h)))).mono fun _ _ h => cp_zero h,
      fun W ve vl vs h => (refPut_bad1 h d v hvm hbad).mono fun _ _ h => cp_zero h⟩
  · have hk : c.kind = 2 := Classical.byContradiction fun h => hbad (.inl h)
    have hd : dotMay d = true := by cases h : dotMay d with | true => rfl | false => exact absurd (.inr (.inl h)) hbad
    have hv : v.size ≤ 256 := by
      rcases Nat.lt_or_ge 256 v.size with h | h
      · exact absurd (.inr (.inr h)) hbad
      · exact h
    by_cases hex : ∃ e ∈ c.ents, (e.1, e.2.1) = d
    · exact ⟨zeroC, 900, fun W ve vl vs h => (put_bad h d v hvm (.inr (.inr (.inr hex)))).mono fun _ _ h => cp_zero h,
        fun W ve vl vs h => (refPut_bad2 h hb hk d hd v hv hex).mono fun _ _ h => cp_zero h⟩
    · have hne : ∀ e ∈ c.ents, (e.1, e.2.1) ≠ d := fun e he h => hex ⟨e, he, h⟩
      exact ⟨_, 0, fun W ve vl vs h => put_ok h hb hk d hd v hv hne (room_of hb), fun W ve vl vs h => refPut_ok h hb hk d hd v hv hne (room_of hb)⟩
theorem drop_both {c : CellV} {ds : List Dt} (hb : CellB c) : ∃ C E, (∀ W ve vl vs a n m, CellR W c ve vl vs → RdS W eDt (.slice a n m) ds → Calls Tryz.prog 71 #[cval c ve vl vs, .slice a n m] W (CP C E W)) ∧
    (∀ W ve vl vs a n m, CellR W c ve vl vs → RdS W eDt (.slice a n m) ds → Calls Tryz.prog 34 #[cval c ve vl vs, .slice a n m] W (CP C E W)) := by
  by_cases hk : c.kind = 2
  · exact ⟨_, 0, fun W ve vl vs a n m h hd => drop_ok h hb hk hd, fun W ve vl vs a n m h hd => refDrop_ok h hb hk hd⟩
  · exact ⟨zeroC, 900, fun W ve vl vs a n m h hd => (drop_bad h hk a n m).mono fun _ _ h => cp_zero h, fun W ve vl vs a n m h hd => (refDrop_bad h hk a n m).mono fun _ _ h => cp_zero h⟩
theorem vals_both {c : CellV} (hb : CellB c) : ∃ L E, (∀ W ve vl vs, CellR W c ve vl vs → Calls Tryz.prog 73 #[cval c ve vl vs] W (VP L E W)) ∧
    (∀ W ve vl vs, CellR W c ve vl vs → Calls Tryz.prog 36 #[cval c ve vl vs] W (VP L E W)) := by
  by_cases hk : c.kind = 2
  · exact ⟨_, 0, fun W ve vl vs h => values_ok h hb hk, fun W ve vl vs h => refValues_ok h hb hk⟩
  · exact ⟨[], 900, fun W ve vl vs h => (values_bad h hk).mono fun _ _ h => ⟨_, _, _, h.1, Ow.nil _ _ _ _ _, h.2⟩, fun W ve vl vs h => (refValues_bad h hk).mono fun _ _ h => ⟨_, _, _, h.1, Ow.nil _ _ _ _ _, h.2⟩⟩
theorem dots_both {c : CellV} (hb : CellB c) (v : ByteArray) : ∃ L E, (∀ W ve vl vs, CellR W c ve vl vs → Calls Tryz.prog 70 #[cval c ve vl vs, .string v] W (DP L E W)) ∧
    (∀ W ve vl vs, CellR W c ve vl vs → Calls Tryz.prog 33 #[cval c ve vl vs, .string v] W (DP L E W)) := by
  by_cases hk : c.kind = 2
  · exact ⟨_, 0, fun W ve vl vs h => dots_ok h hb hk v, fun W ve vl vs h => refDotsOf_ok h hb hk v⟩
  · exact ⟨[], 900, fun W ve vl vs h => (dots_bad h hk v).mono fun _ _ h => ⟨_, _, _, h.1, Ow.nil _ _ _ _ _, h.2⟩, fun W ve vl vs h => (refDots_bad h hk v).mono fun _ _ h => ⟨_, _, _, h.1, Ow.nil _ _ _ _ _, h.2⟩⟩
end Go.Proofs.YtgpdpalhkkjmiaaGreatDoor

/- Layer 10: rga.Values. -/
namespace Go.Proofs.YtgpdpalhkkjmiaaGreatDoor
set_option linter.unusedVariables false
set_option linter.unusedSimpArgs false
open Go.RowKit Go.Lib Go.Tt Go.Shelf
def mapV (l : List El) : List ByteArray := l.map fun x => x.2.2.2.1
/-- A list's values. -/
def valsL (l : List El) : List ByteArray := mapV (l.filter fun x => !x.2.2.2.2)
set_option maxRecDepth 100000 in
theorem kept1_ok (x : El) (w : World) : Calls Tryz.prog 145 #[.agg #[.int .i64 x.1, .int .i64 x.2.1, .int .i64 x.2.2.1, .string x.2.2.2.1, .bool x.2.2.2.2]] w fun e w' => e = .returned (.bool x.2.2.2.2) ∧ Frm No w w' := by
  go_enter Tryz.func145, Tryz.ntmps145
  go_wp2
  go_ret
  exact ⟨rfl, (Frm.refl No w).al _⟩
set_option maxHeartbeats 1000000 in
set_option maxRecDepth 100000 in
theorem kept_ok {w : World} {b : Nat} {l : List El} {cs : Array Value} {vl : Value} (hB : w.heap[b]? = some (.cells cs 75 (0, 0))) (h0 : cs[0]? = some (.int .i64 3)) (h8 : cs[8]? = some vl) (hl : RdS w eEl vl l) (hb : l.length * 48 ≤ reachBytes) :
    Calls Tryz.prog 107 #[.pointer (some ⟨b, 0, none⟩)] w fun e w' => ∃ a n c, e = .returned (.tuple #[.slice a n c, .int .i64 0]) ∧ Ow w' (Nw No w w') 91 eEl (.slice a n c) (l.filter fun x => !x.2.2.2.2) ∧ Frm No w w' := by
  obtain ⟨al, cl, rfl⟩ := hl.sh
  have q0 : w.cell? ⟨b, 0, none⟩ = some (.int .i64 3) := by rw [obj_cell hB, h0]
  have q8 : w.cell? ⟨b, 8, none⟩ = some (.slice al l.length cl) := by rw [obj_cell hB, h8]
  have nb := lt_of_block hB
  have HC := Lib.hid (cloneEl_ok hl hb)
  clear hB h0 h8 hl hb
  go_enter Tryz.func107, Tryz.ntmps107
  go_wp2_with (fail)
  refine HC.out.mono ?_
  rintro e w1 ⟨a1, c1, rfl, o1, f1⟩
  clear HC
  go_wp2_with (fail)
  have p1 : PredFL (Nw No w w1) w1 145 #[] (fun x => x.2.2.2.2) := fun W x f => kept1_ok x W
  refine (delFuncL_ok o1 p1 (enters_of Tryz.func145 (by kernel_rfl) rfl)).mono ?_
  rintro e w2 ⟨n2, rfl, o2, f2⟩
  clear p1
  go_wp2_with (fail)
  go_ret2
  refine ⟨a1, n2, c1, rfl, o2.mono fun k hk h => ?_, f1.then f2 fun k hk h => ?_⟩
  · rcases h with h | h
    · exact h.elim
    · exact .inr ⟨h.1, by have := f2.size; omega⟩
  · rcases h with h | h
    · exact h
    · omega
theorem valsL_step {l : List El} {i : Nat} {x : El} (h : i < l.length) (hx : Hid (x = l[i])) : mapV (l.take (i + 1)) = mapV (l.take i) ++ [x.2.2.2.1] := by
  unfold mapV
  rw [List.take_succ_eq_append_getElem h, ← hx.out, List.map_append]; rfl
set_option maxHeartbeats 1000000 in
set_option maxRecDepth 100000 in
theorem rgaValues_ok {w : World} {c : CellV} {ve vl vs : Value} (h : CellR w c ve vl vs) (hb : CellB c) (hk : c.kind = 3) :
    Calls Tryz.prog 78 #[cval c ve vl vs] w (VP (valsL c.elems) 0 w) := by
  obtain ⟨he, hl, hs⟩ := h
  obtain ⟨ae, ce, rfl⟩ := he.sh
  obtain ⟨al, cl, rfl⟩ := hl.sh
  obtain ⟨at_, cs, rfl⟩ := hs.sh
  have hbl := hb.l
  unfold cval
  rw [hk]
  have B0 := heap_alloc_new w (.cells #[.int .i64 3, .bool c.set, .int .i64 c.st.1, .int .i64 c.st.2, .string c.value, .int .i64 c.num.1, .int .i64 c.num.2, .slice ae c.ents.length ce, .slice al c.elems.length cl, .slice at_ c.seen.length cs] 75 (0, 0))
  have HK := Lib.hid (kept_ok B0 rfl rfl (hl.no ((Frm.refl No w).al _)) hbl)
  have hfl : (c.elems.filter fun x => !x.2.2.2.2).length ≤ c.elems.length := List.length_filter_le _ _
  unfold reachBytes at hbl
  clear he hl hs hb hk B0
  go_enter Tryz.func78, Tryz.ntmps78
  go_wp2_with (fail)
  refine HK.out.mono ?_
  rintro e w1 ⟨a1, n1, c1, rfl, o1, f1⟩
  have F1 : Frm No w w1 := ((Frm.refl No w).al _).trans f1
  clear HK f1
  obtain ⟨L, hL⟩ : ∃ L, Hid (L = c.elems.filter fun x => !x.2.2.2.2) := ⟨_, Lib.hid rfl⟩
  rw [← hL.out] at o1 hfl
  have hn := o1.rd.facts
  have HN := Lib.hid hn.1
  have hnle : n1 ≤ c.elems.length := by omega
  have R1 := Lib.hid o1.rd
  clear o1 hn
  go_wp2_with (fail)
  go_loopg [6, 15] (n1 + 1) (fun g ov iv wr => ∃ (i : Nat) (ao : Option Addr) (co : Nat), iv = .int .i64 i ∧ ov = .slice ao i co ∧ i ≤ n1 ∧ g = n1 - i + 1 ∧ Frm No w1 wr ∧ Ow wr (fun k => w1.heap.size ≤ k) 9 eStr (.slice ao i co) (mapV (L.take i)))
  case atStart => exact ⟨0, none, 0, rfl, rfl, Nat.zero_le _, by omega, Frm.refl _ _, Ow.nil _ _ _ _ _⟩
  case round =>
    obtain ⟨i, ao, co, rfl, rfl, hi, hg, F, O⟩ := hrel
    have hG := Lib.hid hg
    clear hg
    by_cases hlt : i < n1
    · have l1 : i < L.length := by rw [← HN.out]; exact hlt
      obtain ⟨b, off, rfl, hbb, hc⟩ := (R1.out.no F).at l1
      have e0 : wr.cell? ⟨b, off + i * 5, none⟩ = some (.int .i64 L[i].1) := hc 0 _ rfl
      have e1 : wr.cell? ⟨b, off + i * 5 + 1, none⟩ = some (.int .i64 L[i].2.1) := hc 1 _ rfl
      have e2 : wr.cell? ⟨b, off + i * 5 + 2, none⟩ = some (.int .i64 L[i].2.2.1) := hc 2 _ rfl
      have e3 : wr.cell? ⟨b, off + i * 5 + 3, none⟩ = some (.string L[i].2.2.2.1) := hc 3 _ rfl
      have e4 : wr.cell? ⟨b, off + i * 5 + 4, none⟩ = some (.bool L[i].2.2.2.2) := hc 4 _ rfl
      clear hc
      obtain ⟨x, hx⟩ : ∃ x, Hid (x = L[i]) := ⟨_, Lib.hid rfl⟩
      rw [← hx.out] at e0 e1 e2 e3 e4
      have hlen := O.cap.1
      have HLN := Lib.hid hlen
      clear hlen
      go_wp2_with (at_builtin; refine wpList_ap _ rfl (.tmp 19) (.tmp 22) 28 28 rfl 9 _ 16 Tryz.underlying28 i_str rfl ((O.al _).al _) ((RdS.litg _ eStr x.2.2.2.1 _ (g := wr.heap.size + 1) (by simp)).src Tryz.underlying28) rfl rfl rfl ?c1 ?c2 ?_)
      case c1 => rw [← HLN.out]; unfold maxLen; omega
      case c2 => rw [← HLN.out]; omega
      intro a' c' w2 o2 f2
      have F2 : Frm No w1 w2 := ((F.al _).al _).then f2 fun k hk hh => by omega
      rw [← HLN.out] at o2
      go_wp2_with (fail)
      go_roundg (n1 - (i + 1) + 1)
      case measure => have := hG.out; omega
      case rel => exact ⟨i + 1, a', c', by go_num, by rw [← HLN.out], by omega, rfl, F2, by rw [valsL_step l1 hx]; exact o2.mono fun k _ hh => by rcases hh with hh | hh; exact hh; have := hh.1; have := F.size; simp at *; omega⟩
    · have hii : ¬ ((i : Int) < n1) := by omega
      obtain rfl : i = n1 := by omega
      go_wp2_with (fail)
      go_ret2
      have ht : L.take i = L := List.take_of_length_le (by rw [← HN.out]; omega)
      rw [ht] at O
      have hv : valsL c.elems = mapV L := by unfold valsL; rw [← hL.out]
      rw [hv]
      exact ⟨ao, i, co, rfl, O.fin F1.size, F1.trans F⟩
end Go.Proofs.YtgpdpalhkkjmiaaGreatDoor

/- Layers 3 and 4: may a dot, a time, a vector be; what a vector has; both the code's and the reference's functions. -/
namespace Go.Proofs.YtgpdpalhkkjmiaaGreatDoor
set_option linter.unusedVariables false
set_option linter.unusedSimpArgs false
open Go.RowKit Go.Lib Go.Tt
def nodesMay (n : Int) : Bool := decide (1 ≤ n ∧ n ≤ 16)
def timeMay (t : Int) : Bool := decide (1 ≤ t ∧ t ≤ 16777215)
def dotMayN (d : Dt) (n : Int) : Bool := decide ((1 ≤ n ∧ n ≤ 16) ∧ 0 ≤ d.1 ∧ d.1 < n ∧ 1 ≤ d.2 ∧ d.2 ≤ 1048575)
def vecMay (l : List Int) (n : Int) : Bool := decide ((1 ≤ n ∧ n ≤ 16) ∧ (l.length : Int) = n ∧ ∀ x ∈ l, 0 ≤ x ∧ x ≤ 1048575)
def vHas (l : List Int) (d : Dt) : Bool := decide (0 ≤ d.1 ∧ d.1 < l.length ∧ 1 ≤ d.2 ∧ d.2 ≤ l.getD d.1.toNat 0)
def vUnder (a b : List Int) : Bool := vecMay a a.length && vecMay b a.length && decide (∀ i, i < a.length → a.getD i 0 ≤ b.getD i 0)
theorem nodes_ok (n : Int) (w : World) : Calls Tryz.prog 137 #[.int .i64 n] w fun e w' => e = .returned (.bool (nodesMay n)) ∧ w = w' := by
  go_enter Tryz.func137, Tryz.ntmps137
  go_wp2
  all_goals go_ret
  all_goals exact ⟨congrArg (fun b => Ending.returned (Value.bool b)) (by unfold nodesMay; first | exact dec_f (by omega) | exact dec_t (by omega) | exact dec_d (by omega)), rfl⟩
theorem time_ok (n : Int) (w : World) : Calls Tryz.prog 109 #[.int .i64 n] w fun e w' => e = .returned (.bool (timeMay n)) ∧ w = w' := by
  go_enter Tryz.func109, Tryz.ntmps109
  go_wp2
  all_goals go_ret
  all_goals exact ⟨congrArg (fun b => Ending.returned (Value.bool b)) (by unfold timeMay; first | exact dec_f (by omega) | exact dec_t (by omega) | exact dec_d (by omega)), rfl⟩
set_option maxRecDepth 100000 in
theorem dotMay_ok (d : Dt) (n : Int) (w : World) : Calls Tryz.prog 97 #[.agg #[.int .i64 d.1, .int .i64 d.2], .int .i64 n] w fun e w' => e = .returned (.bool (dotMayN d n)) ∧ Frm No w w' := by
  go_enter Tryz.func97, Tryz.ntmps97
  by_cases hn : 1 ≤ n ∧ n ≤ 16
  · have hn' : nodesMay n = true := decide_eq_true hn
    go_wp2_with (go_at_call 137; refine (nodes_ok _ _).mono ?_; rintro e w' ⟨rfl, rfl⟩)
    all_goals go_ret
    all_goals exact ⟨congrArg (fun b => Ending.returned (Value.bool b)) (by unfold dotMayN; first | exact dec_f (by omega) | exact dec_t (by omega) | exact dec_d (by omega)), (Frm.refl No w).al _⟩
  · have hn' : nodesMay n = false := decide_eq_false hn
    go_wp2_with (go_at_call 137; refine (nodes_ok _ _).mono ?_; rintro e w' ⟨rfl, rfl⟩)
    all_goals go_ret
    all_goals exact ⟨congrArg (fun b => Ending.returned (Value.bool b)) (by unfold dotMayN; first | exact dec_f (by omega) | exact dec_t (by omega) | exact dec_d (by omega)), (Frm.refl No w).al _⟩
set_option maxRecDepth 100000 in
theorem refDotMay_ok (d : Dt) (n : Int) (w : World) : Calls Tryz.prog 55 #[.agg #[.int .i64 d.1, .int .i64 d.2], .int .i64 n] w fun e w' => e = .returned (.bool (dotMayN d n)) ∧ Frm No w w' := by
  go_enter Tryz.func55, Tryz.ntmps55
  go_wp2
  all_goals go_ret
  all_goals exact ⟨congrArg (fun b => Ending.returned (Value.bool b)) (by unfold dotMayN; first | exact dec_f (by omega) | exact dec_t (by omega) | exact dec_d (by omega)), (Frm.refl No w).al _⟩
theorem all_step {p : Int → Prop} {l : List Int} {i : Nat} {x : Int} (h : i < l.length) (hx : Hid (x = l[i])) (hp : ∀ y ∈ l.take i, p y) (h1 : p x) : ∀ y ∈ l.take (i + 1), p y := by
  intro y hy
  rw [List.take_succ_eq_append_getElem h, List.mem_append] at hy
  rcases hy with hy | hy
  · exact hp y hy
  · simp only [List.mem_singleton] at hy
    rw [hy, ← hx.out]
    exact h1
end Go.Proofs.YtgpdpalhkkjmiaaGreatDoor

/- Layer 4: is a vector under another one; the reference's own functions on vectors, stamps. -/
namespace Go.Proofs.YtgpdpalhkkjmiaaGreatDoor
set_option linter.unusedVariables false
set_option linter.unusedSimpArgs false
open Go.RowKit Go.Lib Go.Tt
theorem vecMay_len {l : List Int} {k : Int} (h : vecMay l k = true) : (l.length : Int) = k := (of_decide_eq_true h).2.1
theorem under_step {l l' : List Int} {i : Nat} {x y : Int} (h : i < l.length) (h' : i < l'.length) (hx : Hid (x = l[i])) (hy : Hid (y = l'[i])) (hp : ∀ j, j < i → l.getD j 0 ≤ l'.getD j 0) (hxy : x ≤ y) : ∀ j, j < i + 1 → l.getD j 0 ≤ l'.getD j 0 := by
  intro j hj
  rcases Nat.lt_or_ge j i with h1 | h1
  · exact hp j h1
  · obtain rfl : j = i := by omega
    simpa [List.getD, List.getElem?_eq_getElem h, List.getElem?_eq_getElem h', ← hx.out, ← hy.out] using hxy
theorem under_not {l l' : List Int} {i : Nat} {x y : Int} (h : i < l.length) (h' : i < l'.length) (hx : Hid (x = l[i])) (hy : Hid (y = l'[i])) (hxy : y < x) : ¬ ∀ j, j < l.length → l.getD j 0 ≤ l'.getD j 0 := fun e => by
  have := e i h
  simp only [List.getD, List.getElem?_eq_getElem h, List.getElem?_eq_getElem h', ← hx.out, ← hy.out, Option.getD_some] at this
  omega
/-- May a stamp be, of so many nodes? -/
def stMay (s : Int × Int) (n : Int) : Bool := decide (1 ≤ s.1 ∧ s.1 ≤ 16777215 ∧ 0 ≤ s.2 ∧ s.2 < n)
end Go.Proofs.YtgpdpalhkkjmiaaGreatDoor

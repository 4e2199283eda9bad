/- Merged: OForms Law9b RefVals. -/
import Derived.Test.YtgpdpalhkkjmiaaGreatDoorV12
/- tattlelaw9.OrsetForms answers true, for every input. -/
namespace Go.Proofs.YtgpdpalhkkjmiaaGreatDoor
set_option linter.unusedVariables false
set_option linter.unusedSimpArgs false
set_option linter.unusedVariables false
set_option linter.unusedSimpArgs false
open Go.RowKit Go.Lib Go.Tt
/-- The i-th dot. -/
def dt9 (i : Nat) : Dt := (((i % 3 : Nat) : Int), ((1 + i / 3 : Nat) : Int))
def lf : List En := [(0, 2, ⟨#[97]⟩)]
/-- A cell of a kind that is none, with one entry. -/
def cellK (k : Int) : CellV := ⟨k, false, (0, 0), ⟨#[]⟩, (0, 0), lf, [], []⟩
end Go.Proofs.YtgpdpalhkkjmiaaGreatDoor

/- Sets that grow put by put: plain laws. -/
namespace Go.Proofs.YtgpdpalhkkjmiaaGreatDoor
set_option linter.unusedVariables false
set_option linter.unusedSimpArgs false
open Go.RowKit Go.Lib Go.Tt
theorem mem_putEn {l : List En} {d : Dt} {v : ByteArray} {x : En} : x ∈ putEn l d v ↔ x = (d.1, d.2, v) ∨ x ∈ l := by
  unfold putEn
  rw [List.mem_append, List.mem_cons]
  have h : x ∈ l ↔ x ∈ l.take (putAt l d) ∨ x ∈ l.drop (putAt l d) := by
    conv => lhs; rw [← List.take_append_drop (putAt l d) l]
    exact List.mem_append
  rw [h]
  constructor
  · rintro (h | h | h)
    · exact .inr (.inl h)
    · exact .inl h
    · exact .inr (.inr h)
  · rintro (h | h | h)
    · exact .inr (.inl h)
    · exact .inl h
    · exact .inr (.inr h)
theorem filter_putEn {l : List En} {d : Dt} {v : ByteArray} (p : En → Bool) : (putEn l d v).filter p = (l.take (putAt l d)).filter p ++ (if p (d.1, d.2, v) then [(d.1, d.2, v)] else []) ++ (l.drop (putAt l d)).filter p := by
  unfold putEn
  rw [List.filter_append, List.filter_cons]
  by_cases h : p (d.1, d.2, v) = true
  · rw [if_pos h, if_pos h]; simp
  · rw [if_neg h, if_neg h]; simp
theorem count_putEn {l : List En} {d : Dt} {v : ByteArray} (p : En → Bool) : ((putEn l d v).filter p).length = (l.filter p).length + if p (d.1, d.2, v) then 1 else 0 := by
  rw [filter_putEn]
  conv => rhs; rw [← List.take_append_drop (putAt l d) l]
  rw [List.filter_append]
  simp only [List.length_append]
  by_cases h : p (d.1, d.2, v) = true
  · rw [if_pos h, if_pos h, List.length_singleton]; omega
  · rw [if_neg h, if_neg h, List.length_nil]; omega
theorem dt9_inj {i j : Nat} (h : dt9 i = dt9 j) : i = j := by
  unfold dt9 at h
  have h1 := congrArg Prod.fst h
  have h2 := congrArg Prod.snd h
  simp only at h1 h2
  omega
theorem dt9_may {i : Nat} (h : i ≤ 1000) : dotMay (dt9 i) = true := by
  unfold dotMay dt9
  refine decide_eq_true ?_
  simp only
  omega
/-- The set behind n puts. -/
def addL (f : Nat → ByteArray) : Nat → List En
  | 0 => []
  | n + 1 => putEn (addL f n) (dt9 n) (f n)
theorem addL_len (f : Nat → ByteArray) : ∀ n, (addL f n).length = n
  | 0 => rfl
  | n + 1 => by rw [addL, putEn_len, addL_len f n]
theorem mem_addL {f : Nat → ByteArray} {x : En} : ∀ {n : Nat}, x ∈ addL f n ↔ ∃ i, i < n ∧ x = ((dt9 i).1, (dt9 i).2, f i)
  | 0 => by simp [addL]
  | n + 1 => by
    rw [addL, mem_putEn, mem_addL]
    constructor
    · rintro (h | ⟨i, hi, h⟩)
      · exact ⟨n, by omega, h⟩
      · exact ⟨i, by omega, h⟩
    · rintro ⟨i, hi, h⟩
      by_cases e : i = n
      · subst e; exact .inl h
      · exact .inr ⟨i, by omega, h⟩
theorem addL_new {f : Nat → ByteArray} {n : Nat} : ∀ e ∈ addL f n, (e.1, e.2.1) ≠ dt9 n := by
  intro e he
  obtain ⟨i, hi, rfl⟩ := mem_addL.1 he
  intro h
  have := dt9_inj (show dt9 i = dt9 n from h)
  omega
/-- All of one value: its dots are all. -/
theorem dots_all {f : Nat → ByteArray} {n : Nat} {v : ByteArray} (h : ∀ i, i < n → f i = v) : dotsOf (addL f n) v = (addL f n).map fun e => (e.1, e.2.1) := by
  unfold dotsOf
  rw [List.filter_eq_self.2]
  intro e he
  obtain ⟨i, hi, rfl⟩ := mem_addL.1 he
  exact decide_eq_true (h i hi)
theorem drop_all (l : List En) : dropped l (l.map fun e => (e.1, e.2.1)) = [] := by
  unfold dropped
  rw [List.filter_eq_nil_iff]
  intro e he
  simp only [decide_eq_true_eq, Classical.not_not]
  exact List.mem_map.2 ⟨e, he, rfl⟩
theorem drop_new {l : List En} {d : Dt} {v : ByteArray} (h : ∀ e ∈ l, (e.1, e.2.1) ≠ d) : dropped (putEn l d v) (l.map fun e => (e.1, e.2.1)) = [(d.1, d.2, v)] := by
  unfold dropped
  rw [filter_putEn]
  have h1 : ∀ m : List En, (∀ e ∈ m, e ∈ l) → m.filter (fun e => decide ((e.1, e.2.1) ∉ l.map fun e => (e.1, e.2.1))) = [] := by
    intro m hm
    rw [List.filter_eq_nil_iff]
    intro e he
    simp only [decide_eq_true_eq, Classical.not_not]
    exact List.mem_map.2 ⟨e, hm e he, rfl⟩
  rw [h1 _ fun e he => List.mem_of_mem_take he, h1 _ fun e he => List.mem_of_mem_drop he, if_pos]
  · rfl
  · refine decide_eq_true ?_
    rw [List.mem_map]
    rintro ⟨e, he, h2⟩
    exact h e he h2
theorem vals_nil : valsOf [] = [] := valsOf_eq List.Pairwise.nil (by simp)
theorem vals_one (e : En) : valsOf [e] = [e.2.2] := valsOf_eq (List.pairwise_singleton _ _) (by intro x; simp [eq_comm])
end Go.Proofs.YtgpdpalhkkjmiaaGreatDoor

/- Sets: the document's SetValues. -/
namespace Go.Proofs.YtgpdpalhkkjmiaaGreatDoor
set_option linter.unusedVariables false
set_option linter.unusedSimpArgs false
open Go.RowKit Go.Lib Go.Tt
theorem less_iff {x y : ByteArray} : Op.bytesLess x.toList y.toList = true ↔ ltB x y := by
  rw [Go.Proofs.bytesLess_eq, ByteArray.toList_eq, ByteArray.toList_eq]
  exact decide_eq_true_iff
theorem ltB_of {x y : ByteArray} (h : ¬ ltB x y) (hne : x ≠ y) : ltB y x := ltL_of (List.not_lt.1 h) fun e => hne (data_inj e.symm)
theorem ltB_trans {x y z : ByteArray} (h : ltB x y) (h' : ltB y z) : ltB x z := List.lt_trans h h'
/-- A value that is there stays so. -/
theorem vals_same {l : List En} {i : Nat} {x : En} (h : i < l.length) (hx : Hid (x = l[i])) (hm : x.2.2 ∈ valsOf (l.take i)) : valsOf (l.take (i + 1)) = valsOf (l.take i) := by
  refine valsOf_eq (valsOf_pw _) fun y => ?_
  rw [mem_valsOf]
  constructor
  · rintro ⟨e, he, rfl⟩
    exact ⟨e, by rw [List.take_succ_eq_append_getElem h]; exact List.mem_append_left _ he, rfl⟩
  · rintro ⟨e, he, rfl⟩
    rw [List.take_succ_eq_append_getElem h, List.mem_append, List.mem_singleton, ← hx.out] at he
    rcases he with he | rfl
    · exact ⟨e, he, rfl⟩
    · exact mem_valsOf.1 hm
/-- A new value goes to its place. -/
theorem vals_ins {l : List En} {i : Nat} {x : En} {k : Nat} (h : i < l.length) (hx : Hid (x = l[i])) (hk : k ≤ (valsOf (l.take i)).length) (h1 : ∀ j (hj : j < (valsOf (l.take i)).length), j < k → ltB (valsOf (l.take i))[j] x.2.2)
    (h2 : ∀ hk : k < (valsOf (l.take i)).length, ltB x.2.2 (valsOf (l.take i))[k]) : valsOf (l.take (i + 1)) = (valsOf (l.take i)).take k ++ x.2.2 :: (valsOf (l.take i)).drop k := by
  have hp := valsOf_pw (l.take i)
  have hg := List.pairwise_iff_getElem.1 hp
  have hmem : ∀ y, y ∈ valsOf (l.take i) ↔ ∃ e ∈ l.take i, e.2.2 = y := fun y => mem_valsOf
  generalize valsOf (l.take i) = V at hk h1 h2 hp hg hmem
  refine valsOf_eq ?_ fun y => ?_
  · rw [List.pairwise_append, List.pairwise_cons]
    have hd : ∀ y ∈ V.drop k, ltB x.2.2 y := by
      intro y hy
      obtain ⟨j, hj, rfl⟩ := List.getElem_of_mem hy
      rw [List.length_drop] at hj
      rw [List.getElem_drop]
      rcases Nat.eq_zero_or_pos j with rfl | h0
      · exact h2 (by omega)
      · exact ltB_trans (h2 (by omega)) (hg _ _ _ _ (by omega))
    have ht : ∀ y ∈ V.take k, ltB y x.2.2 := by
      intro y hy
      obtain ⟨j, hj, rfl⟩ := List.getElem_of_mem hy
      rw [List.length_take] at hj
      rw [List.getElem_take]
      exact h1 j (by omega) (by omega)
    refine ⟨hp.sublist (List.take_sublist _ _), ⟨hd, hp.sublist (List.drop_sublist _ _)⟩, fun a ha b hb => ?_⟩
    rcases List.mem_cons.1 hb with rfl | hb
    · exact ht a ha
    · exact ltB_trans (ht a ha) (hd b hb)
  · have hE : y ∈ V.take k ++ x.2.2 :: V.drop k ↔ y = x.2.2 ∨ y ∈ V := by
      rw [List.mem_append, List.mem_cons]
      conv => rhs; rhs; rw [← List.take_append_drop k V, List.mem_append]
      constructor
      · rintro (h | h | h)
        · exact .inr (.inl h)
        · exact .inl h
        · exact .inr (.inr h)
      · rintro (h | h | h)
        · exact .inr (.inl h)
        · exact .inl h
        · exact .inr (.inr h)
    rw [hE, hmem]
    constructor
    · rintro (rfl | ⟨e, he, rfl⟩)
      · exact ⟨x, by rw [List.take_succ_eq_append_getElem h, ← hx.out]; exact List.mem_append_right _ (List.mem_singleton.2 rfl), rfl⟩
      · exact ⟨e, by rw [List.take_succ_eq_append_getElem h]; exact List.mem_append_left _ he, rfl⟩
    · rintro ⟨e, he, rfl⟩
      rw [List.take_succ_eq_append_getElem h, List.mem_append, List.mem_singleton, ← hx.out] at he
      rcases he with he | rfl
      · exact .inr ⟨e, he, rfl⟩
      · exact .inl rfl
theorem vals_len (l : List En) : (valsOf l).length ≤ l.length := by
  unfold valsOf Lib.compact Lib.compactUpTo
  rw [List.length_map]
  refine Nat.le_trans (List.length_filter_le _ _) ?_
  rw [List.length_range, sortB_len, List.length_map]
  exact Nat.le_refl _
set_option maxHeartbeats 2000000 in
set_option maxRecDepth 100000 in
theorem refValues_ok {w : World} {c : CellV} {ve vl vs : Value} (h : CellR w c ve vl vs) (hb : CellB c) (hk : c.kind = 2) :
    Calls Tryz.prog 36 #[cval c ve vl vs] w fun e w' => ∃ a' n' c', e = .returned (.tuple #[.slice a' n' c', .int .i64 0]) ∧ Ow w' (Nw No w w') 9 eStr (.slice a' n' c') (valsOf c.ents) ∧ Frm No w w' := by
  obtain ⟨he, hl, hs⟩ := h
  obtain ⟨ae, ce, rfl⟩ := he.sh
  obtain ⟨al, cl, rfl⟩ := hl.sh
  obtain ⟨at_, cs, rfl⟩ := hs.sh
  unfold cval
  rw [hk]
  have HE := Lib.hid he
  have hb1 : c.ents.length * 32 ≤ 140737488351232 := hb.e
  clear he hl hs hk hb
  go_enter Tryz.func36, Tryz.ntmps36
  go_wp2
  go_loopg [4, 5] (c.ents.length + 1) (fun g ov iv wr => ∃ (i : Nat) (ao : Option Addr) (no co : Nat), iv = .int .i64 i ∧ ov = .slice ao no co ∧ i ≤ c.ents.length ∧ g = c.ents.length - i + 1 ∧ Frm No w wr ∧
    wr.heap[w.heap.size]? = some (.cells #[.int .i64 2, .bool c.set, .int .i64 c.st.1, .int .i64 c.st.2, .string c.value, .int .i64 c.num.1, .int .i64 c.num.2, .slice ae c.ents.length ce, .slice al c.elems.length cl, .slice at_ c.seen.length cs] 75 (0, 0)) ∧
    Ow wr (fun k => w.heap.size + 1 ≤ k) 9 eStr (.slice ao no co) (valsOf (c.ents.take i)))
  case atStart => exact ⟨0, none, 0, 0, rfl, rfl, Nat.zero_le _, by omega, (Frm.refl No w).al _, heap_alloc_new w _, by rw [List.take_zero, vals_nil]; exact Ow.nil _ _ _ _ _⟩
  case round =>
    obtain ⟨i, ao, no, co, rfl, rfl, hi, hg, F, B, O⟩ := hrel
    have hG := Lib.hid hg
    have hno := O.cap.1
    have hco := O.rd.facts.2
    unfold maxLen at hco
    have HNO := Lib.hid hno
    have hle : no ≤ i := by have := vals_len (c.ents.take i); rw [List.length_take] at this; omega
    have q7 : wr.cell? ⟨w.heap.size, 7, none⟩ = some (.slice ae c.ents.length ce) := obj_cell B 7
    have hbw := lt_of_block B
    clear hg hno
    by_cases hlt : i < c.ents.length
    · obtain ⟨b, off, rfl, hbl, hc⟩ := (HE.out.no F).at hlt
      have e0 : wr.cell? ⟨b, off + i * 3, none⟩ = some (.int .i64 c.ents[i].1) := hc 0 _ rfl
      have e1 : wr.cell? ⟨b, off + i * 3 + 1, none⟩ = some (.int .i64 c.ents[i].2.1) := hc 1 _ rfl
      have e2 : wr.cell? ⟨b, off + i * 3 + 2, none⟩ = some (.string c.ents[i].2.2) := hc 2 _ rfl
      obtain ⟨x, hx⟩ : ∃ x, Hid (x = c.ents[i]) := ⟨_, Lib.hid rfl⟩
      rw [← hx.out] at e0 e1 e2
      obtain ⟨V, hV⟩ : ∃ V, Hid (V = valsOf (c.ents.take i)) := ⟨_, Lib.hid rfl⟩
      have HNO' : Hid (no = V.length) := Lib.hid (by rw [hV.out]; exact HNO.out)
      rw [← hV.out] at O
      clear hc
      go_wp2
      go_loopg [7] (no + 1) (fun g2 kv wr2 => wr2 = wr ∧ ∃ k : Nat, kv = .int .i64 k ∧ k ≤ no ∧ g2 = no - k + 1 ∧ ∀ j (hj : j < V.length), j < k → ltB V[j] x.2.2)
      case atStart => exact ⟨rfl, 0, rfl, Nat.zero_le _, by omega, fun j hj h => by omega⟩
      case round =>
        obtain ⟨rfl, k, rfl, hk, hg2, hl2⟩ := hrel
        have hG2 := Lib.hid hg2
        have HL2 := Lib.hid hl2
        clear hg2 hl2
        by_cases hkn : k < no
        · have hkv : k < V.length := by rw [← HNO'.out]; exact hkn
          obtain ⟨bo, oo, rfl, hbo, hco2⟩ := O.rd.at hkv
          have y1 : wr.cell? ⟨bo, oo + k, none⟩ = some (.string V[k]) := by have := hco2 0 _ rfl; rwa [show k * eStr.k = k from Nat.mul_one k] at this
          obtain ⟨y, hy⟩ : ∃ y, Hid (y = V[k]) := ⟨_, Lib.hid rfl⟩
          rw [← hy.out] at y1
          clear hco2
          cases hles : Op.bytesLess y.toList x.2.2.toList with
          | true =>
            go_wp2
            go_roundg (no - (k + 1) + 1)
            case measure => have := hG2.out; omega
            case rel =>
              refine ⟨rfl, k + 1, by go_num, by omega, rfl, fun j hj hjk => ?_⟩
              rcases Nat.lt_or_ge j k with h3 | h3
              · exact HL2.out j hj h3
              · obtain rfl : j = k := by omega
                rw [← hy.out]; exact less_iff.1 hles
          | false =>
            have hnl : ¬ ltB y x.2.2 := fun h => by rw [less_iff.2 h] at hles; cases hles
            cases heq : y.toList == x.2.2.toList with
            | true =>
              have hsame := Lib.hid (vals_same hlt hx (by rw [← hV.out, ← str_eq heq, hy.out]; exact List.getElem_mem hkv))
              go_wp2
              go_roundg (c.ents.length - (i + 1) + 1)
              case measure => have := hG.out; omega
              case rel => exact ⟨i + 1, _, no, co, by go_num, rfl, by omega, rfl, F, B, by rw [hsame.out, ← hV.out]; exact O⟩
            | false =>
              have HGT : Hid (∀ hk : k < V.length, ltB x.2.2 V[k]) := Lib.hid fun _ => by rw [← hy.out]; exact ltB_of hnl (str_ne heq)
              clear hnl
              have hins : Hid (valsOf (c.ents.take (i + 1)) = V.take k ++ x.2.2 :: V.drop k) := Lib.hid (by
                have h1 := vals_ins (k := k) hlt hx (by rw [← hV.out, ← HNO'.out]; exact hk) (by intro j hj hjk; have := HL2.out j (by rw [hV.out]; exact hj) hjk; simpa only [hV.out] using this) (by intro hk'; have := HGT.out (by rw [hV.out]; exact hk'); simpa only [hV.out] using this)
                rw [← hV.out] at h1
                exact h1)
              have hkV : k ≤ V.length := by rw [← HNO'.out]; exact hk
              have hb2 : (V.take k).length = k := by rw [List.length_take]; omega
              have O' := O.mono (G := fun k => w.heap.size + 1 ≤ k ∧ k < wr.heap.size) fun k hk h => ⟨h, hk⟩
              go_wp2_with (at_builtin; refine wpList_ap _ rfl (.tmp 51) (.tmp 54) 28 28 rfl 9 _ 16 Tryz.underlying28 i_str rfl (Ow.nil _ No _ eStr _) ((RdS_take (O'.al _).rd hkV).src Tryz.underlying28) hb2.symm rfl rfl ?c1 ?c2 ?_)
              case c1 => unfold maxLen; simp; omega
              case c2 => first | omega | (simp; omega)
              intro a1 c1 w1 o1 f1
              have F1 := (F.al _).trans f1
              have B1 := f1.obj (al_old B) id
              have O1 := (O'.al _).no f1
              replace o1 := o1.from wr.heap.size (by simp)
              have z1 : w.heap.size + 1 ≤ w1.heap.size := lt_of_block B1
              have y0 : wr.heap.size ≤ w1.heap.size := by have := f1.size; simp at this; omega
              go_wp2_with (at_builtin; refine wpList_ap _ rfl (.tmp 56) (.tmp 58) 28 28 rfl 9 _ 16 Tryz.underlying28 i_str rfl (o1.al _) ((RdS.litg _ eStr x.2.2 _ (g := w1.heap.size) rfl).src Tryz.underlying28) rfl rfl rfl ?c1 ?c2 ?_)
              case c1 => rw [hb2]; unfold maxLen; omega
              case c2 => rw [hb2]; omega
              intro a2 c2 w2 o2 f2
              have F2 : Frm No w w2 := (F1.al _).then f2 fun k hk hh => by omega
              have B2 := f2.obj (al_old B1) (by omega)
              have O2 := (O1.al _).frm f2 fun k hk hh => by omega
              replace o2 := o2.mono (G := fun k => wr.heap.size ≤ k) fun k _ hh => by rcases hh with hh | hh; exact hh; have := hh.1; simp at this; omega
              have hl12 : (V.take k ++ [x.2.2]).length = k + 1 := by rw [List.length_append, hb2]; rfl
              have hb3 : (V.drop k).length = no - k := by rw [List.length_drop, HNO'.out]
              have z2 : wr.heap.size ≤ w2.heap.size := by have := f2.size; simp at this; omega
              clear F1 f2 B1 O1 o1 f1
              go_wp2_with (refine wpList_from _ rfl (.tmp 61) (.tmp 62) 28 9 rfl (E := eStr) Tryz.underlying28 (by kernel_rfl) (by kernel_rfl) O2.rd hk rfl rfl ?_)
              intro ad cd hD
              go_wp2_with (at_builtin; refine wpList_ap _ rfl (.tmp 60) (.tmp 63) 28 28 rfl 9 _ 16 Tryz.underlying28 i_str rfl o2 (hD.src Tryz.underlying28) hb3.symm rfl rfl ?c1 ?c2 ?_)
              case c1 => rw [hl12]; unfold maxLen; omega
              case c2 => rw [hl12]; omega
              intro a3 c3 w3 o3 f3
              have F3 : Frm No w w3 := F2.then f3 fun k hk hh => by omega
              have B3 := f3.obj B2 (by omega)
              replace o3 := o3.mono (G := fun k => w.heap.size + 1 ≤ k) fun k _ hh => by rcases hh with hh | hh; omega; have := hh.1; omega
              clear F2 f3 B2 O2 o2 hD
              go_wp2
              go_roundg (c.ents.length - (i + 1) + 1)
              case measure => have := hG.out; omega
              case rel =>
                refine ⟨i + 1, a3, _, c3, by go_num, rfl, by omega, rfl, F3, B3, ?_⟩
                rw [hins.out]
                simpa only [List.append_assoc, List.singleton_append] using o3
        · have hkk : ¬ (k : Int) < no := by omega
          have HGT : Hid (∀ hk : k < V.length, ltB x.2.2 V[k]) := Lib.hid fun h => by have := HNO'.out; omega
          have hins : Hid (valsOf (c.ents.take (i + 1)) = V.take k ++ x.2.2 :: V.drop k) := Lib.hid (by
            have h1 := vals_ins (k := k) hlt hx (by rw [← hV.out, ← HNO'.out]; exact hk) (by intro j hj hjk; have := HL2.out j (by rw [hV.out]; exact hj) hjk; simpa only [hV.out] using this) (by intro hk'; have := HGT.out (by rw [hV.out]; exact hk'); simpa only [hV.out] using this)
            rw [← hV.out] at h1
            exact h1)
          have hkV : k ≤ V.length := by rw [← HNO'.out]; exact hk
          have hb2 : (V.take k).length = k := by rw [List.length_take]; omega
          have O' := O.mono (G := fun k => w.heap.size + 1 ≤ k ∧ k < wr.heap.size) fun k hk h => ⟨h, hk⟩
          go_wp2_with (at_builtin; refine wpList_ap _ rfl (.tmp 51) (.tmp 54) 28 28 rfl 9 _ 16 Tryz.underlying28 i_str rfl (Ow.nil _ No _ eStr _) ((RdS_take (O'.al _).rd hkV).src Tryz.underlying28) hb2.symm rfl rfl ?c1 ?c2 ?_)
          case c1 => unfold maxLen; simp; omega
          case c2 => first | omega | (simp; omega)
          intro a1 c1 w1 o1 f1
          have F1 := (F.al _).trans f1
          have B1 := f1.obj (al_old B) id
          have O1 := (O'.al _).no f1
          replace o1 := o1.from wr.heap.size (by simp)
          have z1 : w.heap.size + 1 ≤ w1.heap.size := lt_of_block B1
          have y0 : wr.heap.size ≤ w1.heap.size := by have := f1.size; simp at this; omega
          go_wp2_with (at_builtin; refine wpList_ap _ rfl (.tmp 56) (.tmp 58) 28 28 rfl 9 _ 16 Tryz.underlying28 i_str rfl (o1.al _) ((RdS.litg _ eStr x.2.2 _ (g := w1.heap.size) rfl).src Tryz.underlying28) rfl rfl rfl ?c1 ?c2 ?_)
          case c1 => rw [hb2]; unfold maxLen; omega
          case c2 => rw [hb2]; omega
          intro a2 c2 w2 o2 f2
          have F2 : Frm No w w2 := (F1.al _).then f2 fun k hk hh => by omega
          have B2 := f2.obj (al_old B1) (by omega)
          have O2 := (O1.al _).frm f2 fun k hk hh => by omega
          replace o2 := o2.mono (G := fun k => wr.heap.size ≤ k) fun k _ hh => by rcases hh with hh | hh; exact hh; have := hh.1; simp at this; omega
          have hl12 : (V.take k ++ [x.2.2]).length = k + 1 := by rw [List.length_append, hb2]; rfl
          have hb3 : (V.drop k).length = no - k := by rw [List.length_drop, HNO'.out]
          have z2 : wr.heap.size ≤ w2.heap.size := by have := f2.size; simp at this; omega
          clear F1 f2 B1 O1 o1 f1
          go_wp2_with (refine wpList_from _ rfl (.tmp 61) (.tmp 62) 28 9 rfl (E := eStr) Tryz.underlying28 (by kernel_rfl) (by kernel_rfl) O2.rd hk rfl rfl ?_)
          intro ad cd hD
          go_wp2_with (at_builtin; refine wpList_ap _ rfl (.tmp 60) (.tmp 63) 28 28 rfl 9 _ 16 Tryz.underlying28 i_str rfl o2 (hD.src Tryz.underlying28) hb3.symm rfl rfl ?c1 ?c2 ?_)
          case c1 => rw [hl12]; unfold maxLen; omega
          case c2 => rw [hl12]; omega
          intro a3 c3 w3 o3 f3
          have F3 : Frm No w w3 := F2.then f3 fun k hk hh => by omega
          have B3 := f3.obj B2 (by omega)
          replace o3 := o3.mono (G := fun k => w.heap.size + 1 ≤ k) fun k _ hh => by rcases hh with hh | hh; omega; have := hh.1; omega
          clear F2 f3 B2 O2 o2 hD
          go_wp2
          go_roundg (c.ents.length - (i + 1) + 1)
          case measure => have := hG.out; omega
          case rel =>
            refine ⟨i + 1, a3, _, c3, by go_num, rfl, by omega, rfl, F3, B3, ?_⟩
            rw [hins.out]
            simpa only [List.append_assoc, List.singleton_append] using o3
    · have hii : ¬ ((i : Int) < c.ents.length) := by omega
      have htk : c.ents.take i = c.ents := List.take_of_length_le (by omega)
      rw [htk] at O
      clear HNO htk
      go_wp2
      go_ret2
      exact ⟨ao, no, co, rfl, O.fin (by omega), F⟩
end Go.Proofs.YtgpdpalhkkjmiaaGreatDoor

/- Merged: CellT2 CellRd Awk0. -/
import Derived.Test.YtofikfkgiblblaaGreatDoorQ20
import Derived.Test.YtofikfkgiblblaaGreatDoorQ26
import Derived.Test.YtofikfkgiblblaaGreatDoorQ35
import Derived.Test.YtofikfkgiblblaaGreatDoorQ40
/- Layer 12: cell.texts. -/
namespace Go.Proofs.YtofikfkgiblblaaGreatDoor
set_option linter.unusedVariables false
set_option linter.unusedSimpArgs false
set_option linter.unusedVariables false
set_option linter.unusedSimpArgs false
open Go.RowKit Go.Lib Go.Tt Go.Shelf
/-- A text told, as the bytes of a string. -/
def txB (s : ByteArray) : ByteArray := ⟨(quoteL s.data.toList).toArray⟩
/-- Texts told. -/
def textsL (ss : List ByteArray) : List UInt8 := 91 :: (Lib.join (ss.map fun s => quoteL s.data.toList) [44] ++ [93])
/-- What texts weigh. -/
def wgt : List ByteArray → Nat
  | [] => 0
  | s :: l => (6 * s.size + 3) + wgt l
theorem wgt_len : ∀ l : List ByteArray, 3 * l.length ≤ wgt l
  | [] => Nat.zero_le _
  | s :: l => by have := wgt_len l; unfold wgt; rw [List.length_cons]; omega
theorem wgt_at : ∀ {l : List ByteArray} {i : Nat} (h : i < l.length), 6 * l[i].size + 3 ≤ wgt l
  | s :: l, 0, _ => by unfold wgt; show 6 * s.size + 3 ≤ _; omega
  | s :: l, i + 1, h => by
    have hi : i < l.length := by rw [List.length_cons] at h; omega
    have := wgt_at hi
    unfold wgt
    show 6 * l[i].size + 3 ≤ _
    omega
theorem quoteL_len (s : ByteArray) : (quoteL s.data.toList).length ≤ 6 * s.size + 2 := by
  have h := flatQ_len s.data.toList
  have e : s.data.toList.length = s.size := Array.length_toList
  unfold quoteL
  simp only [List.length_cons, List.length_append, List.length_nil]
  omega
theorem joinTail_len : ∀ l : List ByteArray, (Lib.joinTail [44] (l.map fun s => quoteL s.data.toList)).length ≤ wgt l
  | [] => by simp [Lib.joinTail]
  | s :: l => by
    have h1 := joinTail_len l
    have h2 := quoteL_len s
    unfold Lib.joinTail at *
    unfold wgt
    simp only [List.map_cons, List.flatten_cons, List.length_append, List.length_cons, List.length_nil]
    omega
theorem join_len : ∀ l : List ByteArray, (Lib.join (l.map fun s => quoteL s.data.toList) [44]).length ≤ wgt l
  | [] => by simp [Lib.join_nil]
  | s :: l => by
    have h1 := joinTail_len l
    have h2 := quoteL_len s
    rw [List.map_cons, Lib.join_cons, List.length_append]
    unfold wgt
    omega
theorem textsL_bytes (ss : List ByteArray) : (⟨#[91]⟩ : ByteArray) ++ ⟨(Lib.join (ss.map fun s => quoteL s.data.toList) [44]).toArray⟩ ++ ⟨#[93]⟩ = ⟨(textsL ss).toArray⟩ := by
  unfold textsL
  apply ByteArray.ext
  simp [ByteArray.data_append]
def txM (l : List ByteArray) : List ByteArray := l.map txB
theorem txB_step {l : List ByteArray} {i : Nat} {x : ByteArray} (h : i < l.length) (hx : Hid (x = l[i])) : txM (l.take (i + 1)) = txM (l.take i) ++ [txB x] := by
  unfold txM
  rw [List.take_succ_eq_append_getElem h, ← hx.out, List.map_append]; rfl
/-- strings.Join of what was told. -/
theorem joined_ok {w : World} {F : Nat → Prop} {a : Option Addr} {n c : Nat} {ss : List ByteArray} (h : Ow w F 9 eStr (.slice a n c) (ss.map txB)) (hl : wgt ss + 2 ≤ 140737488355328) :
    Calls Tryz.prog 90 #[.slice a n c, .string ⟨#[44]⟩] w fun e w' => e = .returned (.string ⟨(Lib.join (ss.map fun s => quoteL s.data.toList) [44]).toArray⟩) ∧ Frm No w w' := by
  have hn := h.cap
  rw [List.length_map] at hn
  cases ss with
  | nil =>
    obtain rfl : n = 0 := hn.1
    exact (Tryz.strings_Join_none a c ⟨#[44]⟩ w).mono fun e w' ⟨he, hw⟩ => ⟨he, by rw [hw]; exact Frm.refl _ _⟩
  | cons s ss =>
    have hR := h.rd
    have h0 : 0 < ((s :: ss).map txB).length := by simp
    obtain ⟨b, off, rfl, hbb, -⟩ := hR.at h0
    have hm : ((s :: ss).map txB).map (fun x => x.data.toList) = (s :: ss).map fun s => quoteL s.data.toList := by
      rw [List.map_map]; apply List.map_congr_left; intro x _; simp [txB]
    have hj := join_len (s :: ss)
    have hw := wgt_len (s :: ss)
    have hJ := Tryz.strings_Join b off c ((s :: ss).map txB) ⟨#[44]⟩ w (fun j x hx => by
      obtain ⟨hj, rfl⟩ := List.getElem?_eq_some_iff.1 hx
      obtain ⟨b', off', e, -, hc⟩ := hR.at hj
      simp only [Option.some.injEq, Addr.mk.injEq, and_true] at e
      obtain ⟨rfl, rfl⟩ := e
      have := hc 0 _ rfl
      rwa [show off + (j * eStr.k + 0) = off + j from by show off + (j * 1 + 0) = off + j; omega] at this) hbb (by rw [List.length_map]; omega) (by rw [List.length_map]; omega) (by rw [hm]; show (Lib.join _ [44]).length ≤ _; omega)
    rw [List.length_map, ← hn.1, hm] at hJ
    exact hJ.mono fun e w' ⟨he, hb⟩ => ⟨he, (Frm.of_below hb).mono fun k hk hge => absurd hge (by omega)⟩
set_option maxHeartbeats 1000000 in
set_option maxRecDepth 100000 in
theorem cellTexts_ok {w : World} {a : Option Addr} {n c : Nat} {ss : List ByteArray} (h : RdS w eStr (.slice a n c) ss) (hl : wgt ss + 2 ≤ 140737488355328) (hl2 : ss.length ≤ 4294967296) :
    Calls Tryz.prog 39 #[.slice a n c] w fun e w' => e = .returned (.string ⟨(textsL ss).toArray⟩) ∧ Frm No w w' := by
  have hn := h.facts
  have HN := Lib.hid hn.1
  have R1 := Lib.hid h
  have hnle : n ≤ 4294967296 := by rw [hn.1]; exact hl2
  have HL := Lib.hid hl
  have hjl := join_len ss
  have hl' : (Lib.join (ss.map fun s => quoteL s.data.toList) [44]).length + 2 ≤ 140737488355328 := by omega
  have hB := Lib.hid (textsL_bytes ss).symm
  clear h hl hn hjl
  go_enter Tryz.func39, Tryz.ntmps39
  go_wp2_with (fail)
  go_loopg [3, 8] (n + 1) (fun g ov iv wr => ∃ (i : Nat) (ao : Option Addr) (co : Nat), iv = .int .i64 i ∧ ov = .slice ao i co ∧ i ≤ n ∧ g = n - i + 1 ∧ Frm No w wr ∧ Ow wr (fun k => w.heap.size ≤ k) 9 eStr (.slice ao i co) (txM (ss.take i)))
  case atStart => exact ⟨0, none, 0, rfl, rfl, Nat.zero_le _, by omega, Frm.refl _ _, Ow.nil _ _ _ _ _⟩
  case round =>
    obtain ⟨i, ao, co, rfl, rfl, hi, hg, F, O⟩ := hrel
    have hG := Lib.hid hg
    clear hg
    by_cases hlt : i < n
    · have l1 : i < ss.length := by rw [← HN.out]; exact hlt
      obtain ⟨b, off, rfl, hbb, hc⟩ := (R1.out.no F).at l1
      have e0 : wr.cell? ⟨b, off + i, none⟩ = some (.string ss[i]) := by have := hc 0 _ rfl; rwa [show off + (i * eStr.k + 0) = off + i from by show off + (i * 1 + 0) = off + i; omega] at this
      have hwx := wgt_at l1
      clear hc
      obtain ⟨x, hx⟩ : ∃ x, Hid (x = ss[i]) := ⟨_, Lib.hid rfl⟩
      rw [← hx.out] at e0 hwx
      have hxl : 6 * x.size + 2 ≤ 140737488355328 := by have := HL.out; omega
      clear hwx
      have HT := Lib.hid (fun W => text_ok x W hxl)
      have hlen := O.cap.1
      have HLN := Lib.hid hlen
      clear hlen hxl
      go_wp2_with (fail)
      refine (HT.out _).mono ?_
      rintro e w1 ⟨rfl, f1⟩
      have F1 := F.trans f1
      have O1 := O.no f1
      clear HT
      go_wp2_with (at_builtin; refine wpList_ap _ rfl (.tmp 12) (.tmp 15) 65 65 rfl 9 _ 16 Tryz.underlying65 i_str rfl (O1.al _) ((RdS.litg _ eStr (txB x) _ (g := w1.heap.size) (by simp [txB])).src Tryz.underlying65) rfl rfl rfl ?c1 ?c2 ?_)
      case c1 => rw [← HLN.out]; unfold maxLen; omega
      case c2 => rw [← HLN.out]; omega
      intro a' c' w2 o2 f2
      have F2 : Frm No w w2 := (F1.al _).then f2 fun k hk hh => by omega
      rw [← HLN.out] at o2
      go_wp2_with (fail)
      go_roundg (n - (i + 1) + 1)
      case measure => have := hG.out; omega
      case rel => exact ⟨i + 1, a', c', by go_num, by rw [← HLN.out], by omega, rfl, F2, by rw [txB_step l1 hx]; exact o2.mono fun k _ hh => by rcases hh with hh | hh; exact hh; have := hh.1; have := F1.size; simp at *; omega⟩
    · have hii : ¬ ((i : Int) < n) := by omega
      obtain rfl : i = n := by omega
      have ht : ss.take i = ss := List.take_of_length_le (by rw [← HN.out]; omega)
      rw [ht] at O
      have HJ := Lib.hid (joined_ok (ss := ss) O HL.out)
      clear O
      go_wp2_with (fail)
      refine HJ.out.mono ?_
      rintro e w2 ⟨rfl, f2⟩
      go_wp2_with (fail)
      go_ret
      rw [hB.out]
      exact ⟨rfl, F.trans f2⟩
end Go.Proofs.YtofikfkgiblblaaGreatDoor

/- Layer 12: cell.Read. -/
namespace Go.Proofs.YtofikfkgiblblaaGreatDoor
set_option linter.unusedVariables false
set_option linter.unusedSimpArgs false
open Go.RowKit Go.Lib Go.Tt Go.Shelf
/-- What Read tells. -/
def readF (c : CellV) : List UInt8 × Int :=
  if kindMay c.kind = false ∨ (c.kind = 1 ∧ pairMay c.num = false) then ([], 1200)
  else if c.kind = 0 then (if c.set = false then [110, 117, 108, 108] else quoteL c.value.data.toList, 0)
  else if c.kind = 1 then (numT c.num, 0)
  else if c.kind = 2 then (textsL (valsOf c.ents), 0)
  else (textsL (valsL c.elems), 0)
/-- A cell that can be told. -/
structure Told (c : CellV) : Prop where
  v : c.kind = 0 → 6 * c.value.size + 2 ≤ 140737488355328
  e : c.kind = 2 → wgt (valsOf c.ents) + 2 ≤ 140737488355328 ∧ (valsOf c.ents).length ≤ 4294967296
  l : c.kind = 3 → wgt (valsL c.elems) + 2 ≤ 140737488355328 ∧ (valsL c.elems).length ≤ 4294967296
set_option maxHeartbeats 2000000 in
set_option maxRecDepth 100000 in
theorem read_bad {w : World} {c : CellV} {ve vl vs : Value} (h : CellR w c ve vl vs) (hk : kindMay c.kind = false) :
    Calls Tryz.prog 15 #[cval c ve vl vs] w fun e w' => e = .returned (.tuple #[.string ⟨(readF c).1.toArray⟩, .int .i64 (readF c).2]) ∧ Frm No w w' := by
  obtain ⟨he, hl, hs⟩ := h
  obtain ⟨ae, ce, rfl⟩ := he.sh
  obtain ⟨al, cl, rfl⟩ := hl.sh
  obtain ⟨at_, cs, rfl⟩ := hs.sh
  have hr : Hid (readF c = ([], 1200)) := Lib.hid (by unfold readF; rw [if_pos (.inl hk)])
  have HK := Lib.hid (fun W => cellKind_ok c.kind W)
  rw [hk] at HK
  rw [show cval c (.slice ae c.ents.length ce) (.slice al c.elems.length cl) (.slice at_ c.seen.length cs) = .agg #[.int .i64 c.kind, .bool c.set, .int .i64 c.st.1, .int .i64 c.st.2, .string c.value, .int .i64 c.num.1, .int .i64 c.num.2, .slice ae c.ents.length ce, .slice al c.elems.length cl, .slice at_ c.seen.length cs] from rfl]
  have F0 : Frm No w (w.alloc (.cells #[.int .i64 c.kind, .bool c.set, .int .i64 c.st.1, .int .i64 c.st.2, .string c.value, .int .i64 c.num.1, .int .i64 c.num.2, .slice ae c.ents.length ce, .slice al c.elems.length cl, .slice at_ c.seen.length cs] 30 (0, 0))) := (Frm.refl No w).al _
  have B0 := heap_alloc_new w (.cells #[.int .i64 c.kind, .bool c.set, .int .i64 c.st.1, .int .i64 c.st.2, .string c.value, .int .i64 c.num.1, .int .i64 c.num.2, .slice ae c.ents.length ce, .slice al c.elems.length cl, .slice at_ c.seen.length cs] 30 (0, 0))
  obtain ⟨q0, q1, q2, q3, q4, q5, q6, q7, q8, q9⟩ := obj10 B0
  clear he hl hs hk B0
  go_enter Tryz.func15, Tryz.ntmps15
  go_wp2_with (fail)
  refine (HK.out _).mono ?_
  rintro e w1 ⟨rfl, rfl⟩
  clear HK
  go_wp2_with (fail)
  go_ret2
  rw [hr.out]
  exact ⟨rfl, F0⟩
set_option maxHeartbeats 2000000 in
set_option maxRecDepth 100000 in
theorem read_lww {w : World} {c : CellV} {ve vl vs : Value} (h : CellR w c ve vl vs) (hk : c.kind = 0) (ht : Told c) :
    Calls Tryz.prog 15 #[cval c ve vl vs] w fun e w' => e = .returned (.tuple #[.string ⟨(readF c).1.toArray⟩, .int .i64 (readF c).2]) ∧ Frm No w w' := by
  obtain ⟨he, hl, hs⟩ := h
  obtain ⟨ae, ce, rfl⟩ := he.sh
  obtain ⟨al, cl, rfl⟩ := hl.sh
  obtain ⟨at_, cs, rfl⟩ := hs.sh
  have hr : Hid (readF c = (if c.set = false then [110, 117, 108, 108] else quoteL c.value.data.toList, 0)) := Lib.hid (by unfold readF; rw [hk, if_neg (fun h => h.elim (by decide) fun h => absurd h.1 (by decide)), if_pos rfl])
  have HT := Lib.hid (fun W => text_ok c.value W (ht.v hk))
  have hcv : cval c (.slice ae c.ents.length ce) (.slice al c.elems.length cl) (.slice at_ c.seen.length cs) = .agg #[.int .i64 0, .bool c.set, .int .i64 c.st.1, .int .i64 c.st.2, .string c.value, .int .i64 c.num.1, .int .i64 c.num.2, .slice ae c.ents.length ce, .slice al c.elems.length cl, .slice at_ c.seen.length cs] := by unfold cval; rw [hk]
  rw [hcv]
  have HK := Lib.hid (fun W => cellKind_ok 0 W)
  rw [show kindMay 0 = true from by decide] at HK
  have B0 := heap_alloc_new w (.cells #[.int .i64 0, .bool c.set, .int .i64 c.st.1, .int .i64 c.st.2, .string c.value, .int .i64 c.num.1, .int .i64 c.num.2, .slice ae c.ents.length ce, .slice al c.elems.length cl, .slice at_ c.seen.length cs] 30 (0, 0))
  have F0 : Frm No w (w.alloc (.cells #[.int .i64 0, .bool c.set, .int .i64 c.st.1, .int .i64 c.st.2, .string c.value, .int .i64 c.num.1, .int .i64 c.num.2, .slice ae c.ents.length ce, .slice al c.elems.length cl, .slice at_ c.seen.length cs] 30 (0, 0))) := (Frm.refl No w).al _
  obtain ⟨q0, q1, q2, q3, q4, q5, q6, q7, q8, q9⟩ := obj10 B0
  clear he hl hs hk B0 ht hcv
  rcases hset : c.set with _ | _
  · rw [hset] at hr
    rw [hset] at q1
    go_enter Tryz.func15, Tryz.ntmps15
    go_wp2_with (fail)
    refine (HK.out _).mono ?_
    rintro e w1 ⟨rfl, rfl⟩
    clear HK
    go_wp2_with (fail)
    go_ret2
    rw [hr.out]
    exact ⟨rfl, (Frm.refl No w).al _⟩
  · rw [hset] at hr
    rw [hset] at q1
    go_enter Tryz.func15, Tryz.ntmps15
    go_wp2_with (fail)
    refine (HK.out _).mono ?_
    rintro e w1 ⟨rfl, rfl⟩
    clear HK
    go_wp2_with (fail)
    refine (HT.out _).mono ?_
    rintro e w2 ⟨rfl, f2⟩
    go_wp2_with (fail)
    go_ret2
    rw [hr.out]
    exact ⟨rfl, ((Frm.refl No w).al _).trans f2⟩
set_option maxHeartbeats 2000000 in
set_option maxRecDepth 100000 in
theorem read_count {w : World} {c : CellV} {ve vl vs : Value} (h : CellR w c ve vl vs) (hk : c.kind = 1) (ht : Tab w) :
    Calls Tryz.prog 15 #[cval c ve vl vs] w fun e w' => e = .returned (.tuple #[.string ⟨(readF c).1.toArray⟩, .int .i64 (readF c).2]) ∧ Frm No w w' := by
  obtain ⟨he, hl, hs⟩ := h
  obtain ⟨ae, ce, rfl⟩ := he.sh
  obtain ⟨al, cl, rfl⟩ := hl.sh
  obtain ⟨at_, cs, rfl⟩ := hs.sh
  have HG := Lib.hid (fun W => gaussMay_ok c.num W)
  have HN := Lib.hid (fun (h : pairMay c.num = true) W (f : Frm No w W) => cellNumber_ok c.num h (ht.frm f))
  have hr : Hid (readF c = if pairMay c.num = false then ([], 1200) else (numT c.num, 0)) := Lib.hid (by
    unfold readF
    rw [hk]
    rcases pairMay c.num with _ | _ <;> simp [kindMay])
  have hcv : cval c (.slice ae c.ents.length ce) (.slice al c.elems.length cl) (.slice at_ c.seen.length cs) = .agg #[.int .i64 1, .bool c.set, .int .i64 c.st.1, .int .i64 c.st.2, .string c.value, .int .i64 c.num.1, .int .i64 c.num.2, .slice ae c.ents.length ce, .slice al c.elems.length cl, .slice at_ c.seen.length cs] := by unfold cval; rw [hk]
  rw [hcv]
  have HK := Lib.hid (fun W => cellKind_ok 1 W)
  rw [show kindMay 1 = true from by decide] at HK
  have B0 := heap_alloc_new w (.cells #[.int .i64 1, .bool c.set, .int .i64 c.st.1, .int .i64 c.st.2, .string c.value, .int .i64 c.num.1, .int .i64 c.num.2, .slice ae c.ents.length ce, .slice al c.elems.length cl, .slice at_ c.seen.length cs] 30 (0, 0))
  have F0 : Frm No w (w.alloc (.cells #[.int .i64 1, .bool c.set, .int .i64 c.st.1, .int .i64 c.st.2, .string c.value, .int .i64 c.num.1, .int .i64 c.num.2, .slice ae c.ents.length ce, .slice al c.elems.length cl, .slice at_ c.seen.length cs] 30 (0, 0))) := (Frm.refl No w).al _
  obtain ⟨q0, q1, q2, q3, q4, q5, q6, q7, q8, q9⟩ := obj10 B0
  clear he hl hs hk B0 ht hcv
  go_enter Tryz.func15, Tryz.ntmps15
  go_wp2_with (fail)
  refine (HK.out _).mono ?_
  rintro e w1 ⟨rfl, rfl⟩
  clear HK
  go_wp2_with (fail)
  refine (HG.out _).mono ?_
  rintro e w2 ⟨rfl, f2⟩
  have F2 := F0.trans f2
  have B2 := f2.obj (heap_alloc_new w (.cells #[.int .i64 1, .bool c.set, .int .i64 c.st.1, .int .i64 c.st.2, .string c.value, .int .i64 c.num.1, .int .i64 c.num.2, .slice ae c.ents.length ce, .slice al c.elems.length cl, .slice at_ c.seen.length cs] 30 (0, 0))) id
  clear q0 q1 q2 q3 q4 q5 q6 q7 q8 q9 HG f2
  obtain ⟨q0, q1, q2, q3, q4, q5, q6, q7, q8, q9⟩ := obj10 B2
  rcases hp : pairMay c.num with _ | _
  · rw [hp, if_pos rfl] at hr
    go_wp2_with (fail)
    go_ret2
    rw [hr.out]
    exact ⟨rfl, F2⟩
  · rw [hp, if_neg (by decide)] at hr
    replace HN := Lib.hid (HN.out hp)
    clear B2
    go_wp2_with (fail)
    refine (HN.out _ F2).mono ?_
    rintro e w3 ⟨rfl, f3⟩
    go_wp2_with (fail)
    go_ret2
    rw [hr.out]
    exact ⟨rfl, F2.trans f3⟩
set_option maxHeartbeats 2000000 in
set_option maxRecDepth 100000 in
theorem read_set {w : World} {c : CellV} {ve vl vs : Value} (h : CellR w c ve vl vs) (hb : CellB c) (hk : c.kind = 2) (ht : Told c) :
    Calls Tryz.prog 15 #[cval c ve vl vs] w fun e w' => e = .returned (.tuple #[.string ⟨(readF c).1.toArray⟩, .int .i64 (readF c).2]) ∧ Frm No w w' := by
  obtain ⟨he, hl, hs⟩ := h
  obtain ⟨ae, ce, rfl⟩ := he.sh
  obtain ⟨al, cl, rfl⟩ := hl.sh
  obtain ⟨at_, cs, rfl⟩ := hs.sh
  have HV := Lib.hid (fun W (f : Frm No w W) => values_ok ((⟨he, hl, hs⟩ : CellR w c _ _ _).no f) hb hk)
  have hr : Hid (readF c = (textsL (valsOf c.ents), 0)) := Lib.hid (by unfold readF; rw [hk]; rfl)
  have HT := Lib.hid (ht.e hk)
  have hcv : cval c (.slice ae c.ents.length ce) (.slice al c.elems.length cl) (.slice at_ c.seen.length cs) = .agg #[.int .i64 2, .bool c.set, .int .i64 c.st.1, .int .i64 c.st.2, .string c.value, .int .i64 c.num.1, .int .i64 c.num.2, .slice ae c.ents.length ce, .slice al c.elems.length cl, .slice at_ c.seen.length cs] := by unfold cval; rw [hk]
  rw [hcv] at HV ⊢
  have HK := Lib.hid (fun W => cellKind_ok 2 W)
  rw [show kindMay 2 = true from by decide] at HK
  have B0 := heap_alloc_new w (.cells #[.int .i64 2, .bool c.set, .int .i64 c.st.1, .int .i64 c.st.2, .string c.value, .int .i64 c.num.1, .int .i64 c.num.2, .slice ae c.ents.length ce, .slice al c.elems.length cl, .slice at_ c.seen.length cs] 30 (0, 0))
  have F0 : Frm No w (w.alloc (.cells #[.int .i64 2, .bool c.set, .int .i64 c.st.1, .int .i64 c.st.2, .string c.value, .int .i64 c.num.1, .int .i64 c.num.2, .slice ae c.ents.length ce, .slice al c.elems.length cl, .slice at_ c.seen.length cs] 30 (0, 0))) := (Frm.refl No w).al _
  obtain ⟨q0, q1, q2, q3, q4, q5, q6, q7, q8, q9⟩ := obj10 B0
  clear he hl hs hk B0 ht hcv hb
  revert HT HV hr
  generalize valsOf c.ents = L
  intro HV hr HT
  go_enter Tryz.func15, Tryz.ntmps15
  go_wp2_with (fail)
  refine (HK.out _).mono ?_
  rintro e w1 ⟨rfl, rfl⟩
  clear HK
  go_wp2_with (fail)
  refine (HV.out _ F0).mono ?_
  rintro e w2 ⟨a2, n2, c2, rfl, o2, f2⟩
  have F2 := F0.trans f2
  clear HV f2
  have HX := Lib.hid (cellTexts_ok o2.rd HT.out.1 HT.out.2)
  clear o2
  go_wp2_with (fail)
  refine HX.out.mono ?_
  rintro e w3 ⟨rfl, f3⟩
  go_wp2_with (fail)
  go_ret2
  rw [hr.out]
  exact ⟨rfl, F2.trans f3⟩
set_option maxHeartbeats 2000000 in
set_option maxRecDepth 100000 in
theorem read_list {w : World} {c : CellV} {ve vl vs : Value} (h : CellR w c ve vl vs) (hb : CellB c) (hk : c.kind = 3) (ht : Told c) :
    Calls Tryz.prog 15 #[cval c ve vl vs] w fun e w' => e = .returned (.tuple #[.string ⟨(readF c).1.toArray⟩, .int .i64 (readF c).2]) ∧ Frm No w w' := by
  obtain ⟨he, hl, hs⟩ := h
  obtain ⟨ae, ce, rfl⟩ := he.sh
  obtain ⟨al, cl, rfl⟩ := hl.sh
  obtain ⟨at_, cs, rfl⟩ := hs.sh
  have HV := Lib.hid (fun W (f : Frm No w W) => rgaValues_ok ((⟨he, hl, hs⟩ : CellR w c _ _ _).no f) hb hk)
  have hr : Hid (readF c = (textsL (valsL c.elems), 0)) := Lib.hid (by unfold readF; rw [hk]; rfl)
  have HT := Lib.hid (ht.l hk)
  have hcv : cval c (.slice ae c.ents.length ce) (.slice al c.elems.length cl) (.slice at_ c.seen.length cs) = .agg #[.int .i64 3, .bool c.set, .int .i64 c.st.1, .int .i64 c.st.2, .string c.value, .int .i64 c.num.1, .int .i64 c.num.2, .slice ae c.ents.length ce, .slice al c.elems.length cl, .slice at_ c.seen.length cs] := by unfold cval; rw [hk]
  rw [hcv] at HV ⊢
  have HK := Lib.hid (fun W => cellKind_ok 3 W)
  rw [show kindMay 3 = true from by decide] at HK
  have B0 := heap_alloc_new w (.cells #[.int .i64 3, .bool c.set, .int .i64 c.st.1, .int .i64 c.st.2, .string c.value, .int .i64 c.num.1, .int .i64 c.num.2, .slice ae c.ents.length ce, .slice al c.elems.length cl, .slice at_ c.seen.length cs] 30 (0, 0))
  have F0 : Frm No w (w.alloc (.cells #[.int .i64 3, .bool c.set, .int .i64 c.st.1, .int .i64 c.st.2, .string c.value, .int .i64 c.num.1, .int .i64 c.num.2, .slice ae c.ents.length ce, .slice al c.elems.length cl, .slice at_ c.seen.length cs] 30 (0, 0))) := (Frm.refl No w).al _
  obtain ⟨q0, q1, q2, q3, q4, q5, q6, q7, q8, q9⟩ := obj10 B0
  clear he hl hs hk B0 ht hcv hb
  revert HT HV hr
  generalize valsL c.elems = L
  intro HV hr HT
  go_enter Tryz.func15, Tryz.ntmps15
  go_wp2_with (fail)
  refine (HK.out _).mono ?_
  rintro e w1 ⟨rfl, rfl⟩
  clear HK
  go_wp2_with (fail)
  refine (HV.out _ F0).mono ?_
  rintro e w2 ⟨a2, n2, c2, rfl, o2, f2⟩
  have F2 := F0.trans f2
  clear HV f2
  have HX := Lib.hid (cellTexts_ok o2.rd HT.out.1 HT.out.2)
  clear o2
  go_wp2_with (fail)
  refine HX.out.mono ?_
  rintro e w3 ⟨rfl, f3⟩
  go_wp2_with (fail)
  go_ret2
  rw [hr.out]
  exact ⟨rfl, F2.trans f3⟩
theorem read_ok {w : World} {c : CellV} {ve vl vs : Value} (h : CellR w c ve vl vs) (hb : CellB c) (ht : Told c) (tab : Tab w) :
    Calls Tryz.prog 15 #[cval c ve vl vs] w fun e w' => e = .returned (.tuple #[.string ⟨(readF c).1.toArray⟩, .int .i64 (readF c).2]) ∧ Frm No w w' := by
  rcases hk : kindMay c.kind with _ | _
  · exact read_bad h hk
  · have hk := of_decide_eq_true hk
    rcases (show c.kind = 0 ∨ c.kind = 1 ∨ c.kind = 2 ∨ c.kind = 3 by omega) with h0 | h0 | h0 | h0
    · exact read_lww h h0 ht
    · exact read_count h h0 tab
    · exact read_set h hb h0 ht
    · exact read_list h hb h0 ht
end Go.Proofs.YtofikfkgiblblaaGreatDoor

/- Layer 12: what awake computes. -/
namespace Go.Proofs.YtofikfkgiblblaaGreatDoor
set_option linter.unusedVariables false
set_option linter.unusedSimpArgs false
open Go.RowKit Go.Lib Go.Tt Go.Shelf
def opA : OpV := ⟨(1, 1), 4, [0, 0], 4, ⟨#[84]⟩, ⟨#[105]⟩, ⟨#[102]⟩, ⟨#[97, 34, 1]⟩, (0, 0), (0, 0), []⟩
def opS : OpV := ⟨(1, 1), 4, [0, 0], 0, ⟨#[84]⟩, ⟨#[105]⟩, ⟨#[102]⟩, ⟨#[97, 34, 1]⟩, (0, 0), (0, 0), []⟩
def dA : CellV := ⟨3, false, (0, 0), ⟨#[]⟩, (0, 0), [], [(1, 1, 4, ⟨#[97, 34, 1]⟩, false)], [0, 1]⟩
def cB : CellV := ⟨1, false, (0, 0), ⟨#[]⟩, (1, -2), [], [], []⟩
def cC : CellV := ⟨9, false, (0, 0), ⟨#[]⟩, (0, 0), [], [], []⟩
theorem newA : newF 3 2 = (newC 3 2, 0) := by rfl
theorem newB : newF 4 2 = (zeroC, 1201) := by rfl
theorem newD : newF 0 0 = (zeroC, 1200) := by rfl
theorem applyA : applyF (newC 3 2) opA 2 = (dA, 0) := by rfl
theorem applyB : applyF dA opS 2 = (zeroC, 1201) := by rfl
theorem readA : readF dA = ([91, 34, 97, 92, 34, 92, 117, 48, 48, 48, 49, 34, 93], 0) := by rfl
theorem readC : readF cC = ([], 1200) := by rfl
theorem itoa1 : Lib.itoa 1 = [49] := by decide +kernel
theorem itoa2 : Lib.itoa (-2) = [45, 50] := by decide +kernel
theorem readB : readF cB = ([91, 49, 44, 45, 50, 93], 0) := by
  have h : readF cB = (numT (1, -2), 0) := by rfl
  rw [h]; unfold numT; rw [if_neg (by decide), itoa1, itoa2]; rfl
theorem mayA : cellMay dA 2 = true := by rfl
theorem stabA : vUnder dA.seen [0, 1] = true := by rfl
theorem stabB : vUnder dA.seen [9, 0] = false := by rfl
end Go.Proofs.YtofikfkgiblblaaGreatDoor

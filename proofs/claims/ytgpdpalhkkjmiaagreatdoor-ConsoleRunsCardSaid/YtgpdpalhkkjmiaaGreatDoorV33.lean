/- Merged: ConLi ConN. -/
import Derived.Shelf.Strings.SlTrimAscii
import Derived.Test.YtgpdpalhkkjmiaaGreatDoorV22
import Derived.Test.YtgpdpalhkkjmiaaGreatDoorV23
import Derived.Test.YtgpdpalhkkjmiaaGreatDoorV30
import Derived.Test.YtgpdpalhkkjmiaaGreatDoorV32
/- The console: lists. -/
namespace Go.Proofs.YtgpdpalhkkjmiaaGreatDoor
set_option linter.unusedVariables false
set_option linter.unusedSimpArgs false
set_option linter.unusedVariables false
set_option linter.unusedSimpArgs false
open Go.RowKit Go.Lib Go.Tt Go.Shelf
def listC (l : List El) : CellV := ⟨3, false, (0, 0), ⟨#[]⟩, (0, 0), [], l, []⟩
theorem listC_b {l : List El} (h : l.length ≤ 1000000) : CellB (listC l) := ⟨by show 0 * 32 ≤ reachBytes; unfold reachBytes; omega, by show l.length * 48 ≤ reachBytes; unfold reachBytes; omega, by show 0 * 8 ≤ reachBytes; omega⟩
theorem list_sh {w : World} {F : Nat → Prop} {l : List El} {ve vl vs : Value} {n' : Nat} (h : CellO w F (listC l) ve vl vs) (hn : n' = l.length) : ∃ a' m' b' d' f' g', ve = .slice a' 0 m' ∧ vl = .slice b' n' d' ∧ vs = .slice f' 0 g' := by
  obtain ⟨a, c, rfl⟩ := h.e.sh
  obtain ⟨b, d, rfl⟩ := h.l.sh
  obtain ⟨f, g, rfl⟩ := h.s.sh
  subst hn
  exact ⟨a, c, b, d, f, g, rfl, rfl, rfl⟩
/-- A call answers with a list. -/
def LP (l : List El) (n' : Nat) (W : World) (e : Ending) (W' : World) : Prop :=
  ∃ a' m' b' d' f' g', e = .returned (.tuple #[.agg #[.int .i64 3, .bool false, .int .i64 0, .int .i64 0, .string ⟨#[]⟩, .int .i64 0, .int .i64 0, .slice a' 0 m', .slice b' n' d', .slice f' 0 g'], .int .i64 0]) ∧ CellO W' (Nw No W W') (listC l) (.slice a' 0 m') (.slice b' n' d') (.slice f' 0 g') ∧ Frm No W W'
theorem lp_of {l : List El} {n' : Nat} (hn : n' = l.length) {W : World} {e : Ending} {W' : World} (h : CP (listC l) 0 W e W') : LP l n' W e W' := by
  obtain ⟨ve, vl, vs, rfl, o, f⟩ := h
  obtain ⟨a', m', b', d', f', g', rfl, rfl, rfl⟩ := list_sh o hn
  exact ⟨a', m', b', d', f', g', rfl, o, f⟩
theorem lastIs {l : List El} {i : Nat} (h : IncL l i) : (lastD l).1 = 0 := by
  unfold lastD
  cases hl : l.getLast? with
  | none => rfl
  | some e => exact (h.el e (List.mem_of_getLast? hl)).1
section
variable {w : World} {l : List El} {a b f : Option Addr} {n m d g : Nat}
theorem list_ins (h : CellR w (listC l) (.slice a 0 m) (.slice b n d) (.slice f 0 g)) (hb : l.length ≤ 1000000) {i : Nat} (hI : IncL l i) (hi : i ≤ 65537) {x : ByteArray} (hx : x.size ≤ 256) {dl : Dt} (hdl : Hid (dl = lastD l)) (n' : Nat) (hn : n' = l.length + 1) :
    Calls Tryz.prog 77 #[.agg #[.int .i64 3, .bool false, .int .i64 0, .int .i64 0, .string ⟨#[]⟩, .int .i64 0, .int .i64 0, .slice a 0 m, .slice b n d, .slice f 0 g], .agg #[.int .i64 0, .int .i64 ((i : Int) + 1), .int .i64 ((i : Int) + 1), .string x, .bool false], .agg #[.int .i64 dl.1, .int .i64 dl.2]] w (LP (l ++ [newEl i x]) n' w) := by
  have k := rgaInsert_ok h (listC_b hb) rfl (x := newEl i x) (by unfold newEl dotMay; simp; omega) (by unfold newEl timeMay; simp; omega) hx rfl (lastD l)
  rw [ins_end hI x (c := listC l) rfl, ← hdl.out] at k
  exact k.mono fun _ _ h => lp_of (by rw [hn]; simp) h
theorem list_insR (h : CellR w (listC l) (.slice a 0 m) (.slice b n d) (.slice f 0 g)) (hb : l.length ≤ 1000000) {i : Nat} (hI : IncL l i) (hi : i ≤ 65537) {x : ByteArray} (hx : x.size ≤ 256) {dl : Dt} (hdl : Hid (dl = lastD l)) (n' : Nat) (hn : n' = l.length + 1) :
    Calls Tryz.prog 40 #[.agg #[.int .i64 3, .bool false, .int .i64 0, .int .i64 0, .string ⟨#[]⟩, .int .i64 0, .int .i64 0, .slice a 0 m, .slice b n d, .slice f 0 g], .agg #[.int .i64 0, .int .i64 ((i : Int) + 1), .int .i64 ((i : Int) + 1), .string x, .bool false], .agg #[.int .i64 dl.1, .int .i64 dl.2]] w (LP (l ++ [newEl i x]) n' w) := by
  have k := refInsert_ok h (listC_b hb) rfl (d := (0, (i : Int) + 1)) (by unfold dotMay; simp; omega) (t := (i : Int) + 1) (by unfold timeMay; simp; omega) hx (lastD l)
  have e : insF (listC l) ((0, (i : Int) + 1).1, (0, (i : Int) + 1).2, (i : Int) + 1, x, false) (lastD l) = (listC (l ++ [newEl i x]), 0) := ins_end hI x (c := listC l) rfl
  rw [e, ← hdl.out] at k
  exact k.mono fun _ _ h => lp_of (by rw [hn]; simp) h
theorem list_insB (h : CellR w (listC l) (.slice a 0 m) (.slice b n d) (.slice f 0 g)) (hb : l.length ≤ 1000000) {i : Nat} (hi : i ≤ 65537) {x : ByteArray} (hx : 256 < x.size) (hxm : x.size ≤ maxLen) (dl : Dt) :
    Calls Tryz.prog 77 #[.agg #[.int .i64 3, .bool false, .int .i64 0, .int .i64 0, .string ⟨#[]⟩, .int .i64 0, .int .i64 0, .slice a 0 m, .slice b n d, .slice f 0 g], .agg #[.int .i64 0, .int .i64 ((i : Int) + 1), .int .i64 ((i : Int) + 1), .string x, .bool false], .agg #[.int .i64 dl.1, .int .i64 dl.2]] w (CP zeroC 1000 w) :=
  rgaInsert_bad h (listC_b hb) rfl (x := newEl i x) (by unfold newEl dotMay; simp; omega) (by unfold newEl timeMay; simp; omega) hx hxm rfl dl
theorem list_insRB (h : CellR w (listC l) (.slice a 0 m) (.slice b n d) (.slice f 0 g)) (hb : l.length ≤ 1000000) {i : Nat} (hi : i ≤ 65537) {x : ByteArray} (hx : 256 < x.size) (dl : Dt) :
    Calls Tryz.prog 40 #[.agg #[.int .i64 3, .bool false, .int .i64 0, .int .i64 0, .string ⟨#[]⟩, .int .i64 0, .int .i64 0, .slice a 0 m, .slice b n d, .slice f 0 g], .agg #[.int .i64 0, .int .i64 ((i : Int) + 1), .int .i64 ((i : Int) + 1), .string x, .bool false], .agg #[.int .i64 dl.1, .int .i64 dl.2]] w (CP zeroC 1000 w) :=
  refInsert_bad h (listC_b hb) rfl (d := (0, (i : Int) + 1)) (by unfold dotMay; simp; omega) (t := (i : Int) + 1) (by unfold timeMay; simp; omega) hx dl
theorem list_era (h : CellR w (listC l) (.slice a 0 m) (.slice b n d) (.slice f 0 g)) (hb : l.length ≤ 1000000) {i : Nat} (hI : IncL l i) {x : El} {t : List El} (hx : (l.filter fun e => !e.2.2.2.2) = x :: t) (n' : Nat) (hn : n' = l.length) :
    Calls Tryz.prog 76 #[.agg #[.int .i64 3, .bool false, .int .i64 0, .int .i64 0, .string ⟨#[]⟩, .int .i64 0, .int .i64 0, .slice a 0 m, .slice b n d, .slice f 0 g], .agg #[.int .i64 x.1, .int .i64 x.2.1]] w (LP (eraFst l) n' w) := by
  have k := rgaErase_ok h (listC_b hb) rfl (x.1, x.2.1)
  rw [era_f hI hx (c := listC l) rfl] at k
  exact k.mono fun _ _ h => lp_of (by rw [hn, era_len]) h
theorem list_eraR (h : CellR w (listC l) (.slice a 0 m) (.slice b n d) (.slice f 0 g)) (hb : l.length ≤ 1000000) {i : Nat} (hI : IncL l i) {x : El} {t : List El} (hx : (l.filter fun e => !e.2.2.2.2) = x :: t) (n' : Nat) (hn : n' = l.length) :
    Calls Tryz.prog 39 #[.agg #[.int .i64 3, .bool false, .int .i64 0, .int .i64 0, .string ⟨#[]⟩, .int .i64 0, .int .i64 0, .slice a 0 m, .slice b n d, .slice f 0 g], .agg #[.int .i64 x.1, .int .i64 x.2.1]] w (LP (eraFst l) n' w) := by
  have k := refErase_ok h (listC_b hb) rfl (x.1, x.2.1)
  rw [era_f hI hx (c := listC l) rfl] at k
  exact k.mono fun _ _ h => lp_of (by rw [hn, era_len]) h
end
/-- What list tells. -/
def listR (ws : List ByteArray) : List UInt8 × Int := match listG 0 [] ws with
  | none => ([], 1000)
  | some l => (joinT (valsL l) [32], 0)
/-- How the lists of the command stand. -/
structure ListW (ws : List ByteArray) (i : Nat) (l : List El) : Prop where
  inc : IncL l i
  len : l.length ≤ i
  go : listG 0 [] ws = listG i l (ws.drop i)
theorem ListW.nil (ws : List ByteArray) : ListW ws 0 [] := ⟨IncL.nil, Nat.le_refl _, rfl⟩
theorem ListW.step {ws : List ByteArray} {i : Nat} {l l' : List El} (h : ListW ws i l) (hi : i < ws.length) (hs : listS i l ws[i] = some l') : ListW ws (i + 1) l' := by
  have hgo : listG 0 [] ws = listG (i + 1) l' (ws.drop (i + 1)) := by
    rw [h.go, List.drop_eq_getElem_cons hi]
    show (match listS i l ws[i] with | none => none | some l' => listG (i + 1) l' (ws.drop (i + 1))) = _
    rw [hs]
  unfold listS at hs
  split at hs
  · cases hs
    exact ⟨h.inc.era.up, by rw [era_len]; have := h.len; omega, hgo⟩
  · split at hs
    · cases hs
    · rename_i hb
      cases hs
      refine ⟨h.inc.new ?_, by have := h.len; simp; omega, hgo⟩
      rcases Nat.lt_or_ge 256 (ws[i]).size with h1 | h1
      · exact absurd (Nat.ble_eq_true_of_le (show 257 ≤ (ws[i]).size from h1)) hb
      · exact h1
theorem ListW.no {ws : List ByteArray} {i : Nat} {l : List El} (h : ListW ws i l) (hi : i < ws.length) (hs : listS i l ws[i] = none) : listR ws = ([], 1000) := by
  unfold listR
  rw [h.go, List.drop_eq_getElem_cons hi]
  show (match (match listS i l ws[i] with | none => none | some l' => listG (i + 1) l' (ws.drop (i + 1))) with | none => (([] : List UInt8), (1000 : Int)) | some l => _) = _
  rw [hs]
theorem ListW.fin {ws : List ByteArray} {i : Nat} {l : List El} (h : ListW ws i l) (hi : i = ws.length) : listR ws = (joinT (valsL l) [32], 0) := by
  have : listG 0 [] ws = some l := by rw [h.go, hi, List.drop_length]; rfl
  unfold listR
  rw [this]
theorem ListW.sz {ws : List ByteArray} {i : Nat} {l : List El} (h : ListW ws i l) : wsz (valsL l) ≤ i * 257 ∧ (valsL l).length ≤ i := by
  have h2 : (valsL l).length ≤ l.length := by unfold valsL mapV; rw [List.length_map]; exact List.length_filter_le _ _
  have h1 : wsz (valsL l) ≤ (valsL l).length * 257 := wsz_bd (m := 256) fun w hw => by
    unfold valsL mapV at hw
    rw [List.mem_map] at hw
    obtain ⟨e, he, rfl⟩ := hw
    exact h.inc.vl e (List.mem_filter.1 he).1
  have h3 := h.len
  omega
theorem listS_dash {l : List El} {i : Nat} {x : ByteArray} (hd : dashB x = true) : listS i l x = some (eraFst l) := by
  unfold listS
  rw [if_pos hd]
theorem listS_put {l : List El} {i : Nat} {x : ByteArray} (hd : dashB x = false) (hx : x.size ≤ 256) : listS i l x = some (l ++ [newEl i x]) := by
  unfold listS
  rw [if_neg (by rw [hd]; decide), if_neg (by rw [Nat.ble_eq]; omega)]
theorem listS_bad {l : List El} {i : Nat} {x : ByteArray} (hd : dashB x = false) (hx : ¬ x.size ≤ 256) : listS i l x = none := by
  unfold listS
  rw [if_neg (by rw [hd]; decide), if_pos (by rw [Nat.ble_eq]; omega)]
theorem list_one (a b f : Option Addr) (m n d g : Nat) : ∀ u ∈ [Value.int .i64 3, .bool false, .int .i64 0, .int .i64 0, .string ⟨#[]⟩, .int .i64 0, .int .i64 0, .slice a 0 m, .slice b n d, .slice f 0 g], u.oneCell' = true := by
  intro u hu
  simp only [List.mem_cons, List.not_mem_nil, or_false] at hu
  rcases hu with rfl | rfl | rfl | rfl | rfl | rfl | rfl | rfl | rfl | rfl <;> rfl
theorem hasDash_ok (x : ByteArray) (w : World) : Calls Tryz.prog 74 #[.string x, .string ⟨#[45]⟩] w fun e w' => e = .returned (.bool (dashB x)) ∧ w = w' :=
  (Tryz.strings_HasPrefix x ⟨#[45]⟩ w).mono fun e w' ⟨he, hw⟩ => ⟨he, hw.symm⟩
set_option maxHeartbeats 8000000 in
set_option maxRecDepth 100000 in
theorem consList_ok {w : World} {a : Option Addr} {n c : Nat} {ws : List ByteArray} (h : RdS w eStr (.slice a n c) ws) (hw : wsz ws ≤ 65537) :
    Calls Tryz.prog 49 #[.slice a n c] w fun e w' => e = .returned (.tuple #[.string ⟨(listR ws).1.toArray⟩, .int .i64 (listR ws).2]) ∧ Frm No w w' := by
  have hn := h.facts
  have HN := Lib.hid hn.1
  have R1 := Lib.hid h
  have HW := Lib.hid hw
  have hle : n ≤ 65537 := by have := wsz_len ws; omega
  clear h hn hw
  go_enter Tryz.func49, Tryz.ntmps49
  go_wp2_with (fail)
  go_loopg [18] (n + 1) (fun gg iv wr => ∃ (i : Nat) (l : List El) (a1 b1 f1 : Option Addr) (n1 m1 d1 g1 : Nat) (dl : Dt), iv = .int .i64 i ∧ i ≤ n ∧ gg = n - i + 1 ∧ Frm No w wr ∧
    wr.heap[w.heap.size]? = some (.cells #[.int .i64 3, .bool false, .int .i64 0, .int .i64 0, .string ⟨#[]⟩, .int .i64 0, .int .i64 0, .slice a1 0 m1, .slice b1 n1 d1, .slice f1 0 g1] 75 (0, 0)) ∧
    wr.heap[w.heap.size + 1]? = some (.cells #[.int .i64 dl.1, .int .i64 dl.2] 83 (0, 0)) ∧ Hid (dl = lastD l) ∧ Hid (n1 = l.length) ∧
    CellO wr (fun k => w.heap.size + 2 ≤ k) (listC l) (.slice a1 0 m1) (.slice b1 n1 d1) (.slice f1 0 g1) ∧ ListW ws i l)
  case atStart => exact ⟨0, [], none, none, none, 0, 0, 0, 0, (0, 0), rfl, Nat.zero_le _, by omega, ((Frm.refl No w).al _).al _, al_old (heap_alloc_new w _), al_at (by simp), Lib.hid rfl, Lib.hid rfl, ⟨Ow.nil _ _ _ _ _, Ow.nil _ _ _ _ _, Ow.nil _ _ _ _ _⟩, ListW.nil ws⟩
  case round =>
    obtain ⟨i, l, a1, b1, f1, n1, m1, d1, g1, dl, rfl, hi, hg, F, B, D, hdl, hn1, O, S⟩ := hrel
    have hG := Lib.hid hg
    have nB := lt_of_block B
    have nD := lt_of_block D
    have HS := Lib.hid S
    have hll : l.length ≤ 1000000 := by have := S.len; omega
    obtain ⟨q0, q1, q2, q3, q4, q5, q6, q7, q8, q9⟩ := obj10 B
    have r0 : wr.cell? ⟨w.heap.size + 1, 0, none⟩ = some (.int .i64 dl.1) := obj_cell D 0
    have r1 : wr.cell? ⟨w.heap.size + 1, 1, none⟩ = some (.int .i64 dl.2) := obj_cell D 1
    clear hg S
    by_cases hlt : i < n
    · have l1 : i < ws.length := by rw [← HN.out]; exact hlt
      obtain ⟨b, off, rfl, hbb, hc⟩ := (R1.out.no F).at l1
      have e0 : wr.cell? ⟨b, off + i, none⟩ = some (.string ws[i]) := by have := hc 0 _ rfl; rwa [show off + (i * eStr.k + 0) = off + i from by show off + (i * 1 + 0) = off + i; omega] at this
      have hxw := wsz_at l1
      clear hc
      obtain ⟨x, hx⟩ : ∃ x, Hid (x = ws[i]) := ⟨_, Lib.hid rfl⟩
      rw [← hx.out] at e0 hxw
      have hxm : x.size ≤ maxLen := by unfold maxLen; have := HW.out; omega
      clear hxw
      have HC := Lib.hid (hasDash_ok x)
      cases hd : dashB x with
      | true =>
        rw [hd] at HC
        have HS1 := Lib.hid (HS.out.step l1 (by rw [← hx.out]; exact listS_dash hd))
        clear hd
        rcases hfl : l.filter (fun e => !e.2.2.2.2) with _ | ⟨y, t⟩
        · have hA := Lib.hid (fun W (f : Frm No wr W) => rgaAt_none ((O.frm f fun k _ h => h).rd) (listC_b hll) rfl hfl)
          rw [era_none hfl] at HS1
          clear hfl
          go_wp2_with (fail)
          refine (HC.out _).mono ?_
          rintro e w0 ⟨rfl, rfl⟩
          go_wp2_with (fail)
          refine (hA.out _ (Frm.refl _ _)).mono ?_
          rintro e w2 ⟨rfl, f2⟩
          have B2 := f2.obj B id
          have D2 := f2.obj D id
          have F2 := F.trans f2
          go_wp2_with (fail)
          go_roundg (n - (i + 1) + 1)
          case measure => have := hG.out; omega
          case rel => exact ⟨i + 1, l, a1, b1, f1, n1, m1, d1, g1, dl, by go_num, by omega, rfl, F2.al _, al_old B2, al_old D2, hdl, hn1, (O.frm f2 fun k _ h => h).frm (Frm.alloc No w2 _) fun k _ h => h, HS1.out⟩
        · have hA := Lib.hid (fun W (f : Frm No wr W) => rgaAt_ok ((O.frm f fun k _ h => h).rd) (listC_b hll) rfl hfl)
          have hE := Lib.hid (fun W (f : Frm No wr W) => list_era ((O.frm f fun k _ h => h).rd) hll HS.out.inc hfl n1 hn1.out)
          clear hfl
          go_wp2_with (fail)
          refine (HC.out _).mono ?_
          rintro e w0 ⟨rfl, rfl⟩
          go_wp2_with (fail)
          refine (hA.out _ (Frm.refl _ _)).mono ?_
          rintro e w2 ⟨rfl, f2⟩
          have B2 := f2.obj B id
          have D2 := f2.obj D id
          have F2 := F.trans f2
          have nB2 := lt_of_block B2
          clear q0 q1 q2 q3 q4 q5 q6 q7 q8 q9 r0 r1 e0
          obtain ⟨q0, q1, q2, q3, q4, q5, q6, q7, q8, q9⟩ := obj10 B2
          go_wp2_with (fail)
          refine (hE.out _ (f2.al _)).mono ?_
          rintro e w3 ⟨a3, m3, b3, d3, f3, g3, rfl, o3, f3'⟩
          have B3 := f3'.obj (al_old B2) id
          have D3 := f3'.obj (al_old D2) id
          have F3 := (F2.al _).trans f3'
          have z3 := f3'.size
          have z2 := f2.size
          clear q0 q1 q2 q3 q4 q5 q6 q7 q8 q9 hA hE
          go_wp2_with (refine wpList_sto _ rfl (.tmp 4) (.tmp 36) 75 rfl B3 (by kernel_rfl) (by rfl) (list_one a3 b3 f3 m3 n1 d3 g3) rfl rfl ?_)
          intro w4 B4 f4 z4
          have D4 := f4.obj D3 (by omega)
          go_wp2_with (fail)
          go_roundg (n - (i + 1) + 1)
          case measure => have := hG.out; omega
          case rel => exact ⟨i + 1, eraFst l, a3, b3, f3, n1, m3, d3, g3, dl, by go_num, by omega, rfl, F3.then f4 fun k hk h => by omega, B4, D4, Lib.hid (by rw [hdl.out, era_last]), Lib.hid (by rw [hn1.out, era_len]), (o3.mono (G := fun k => w.heap.size + 2 ≤ k) fun k hk h => by rcases h with h | h; exact h.elim; have := h.1; simp at this; omega).frm f4 fun k h e => by omega, HS1.out⟩
      | false =>
        rw [hd] at HC
        by_cases hx6 : x.size ≤ 256
        · have HS1 := Lib.hid (HS.out.step l1 (by rw [← hx.out]; exact listS_put hd hx6))
          obtain ⟨n3, hn3⟩ : ∃ n3, Hid (n3 = l.length + 1) := ⟨_, Lib.hid rfl⟩
          have HP := Lib.hid (fun W (f : Frm No wr W) => list_ins ((O.frm f fun k _ h => h).rd) hll HS.out.inc (by omega : i ≤ 65537) hx6 hdl n3 hn3.out)
          clear hd
          go_wp2_with (fail)
          refine (HC.out _).mono ?_
          rintro e w0 ⟨rfl, rfl⟩
          go_wp2_with (fail)
          refine (HP.out _ ((Frm.refl No _).al _)).mono ?_
          rintro e w3 ⟨a3, m3, b3, d3, f3, g3, rfl, o3, f3'⟩
          have B3 := f3'.obj (al_old B) id
          have D3 := f3'.obj (al_old D) id
          have T3 := f3'.obj (heap_alloc_new wr _) id
          have F3 := (F.al _).trans f3'
          have nB3 := lt_of_block B3
          have nT3 := lt_of_block T3
          have z3 := f3'.size
          clear q0 q1 q2 q3 q4 q5 q6 q7 q8 q9 r0 r1 e0 HP
          have t0 : w3.cell? ⟨wr.heap.size, 0, none⟩ = some (.int .i64 0) := obj_cell T3 0
          have t1 : w3.cell? ⟨wr.heap.size, 1, none⟩ = some (.int .i64 ((i : Int) + 1)) := obj_cell T3 1
          go_wp2_with (fail)
          refine wp_region_plan [([0, 1, 2], [1]), ([3], [])] 66 (by kernel_rfl) (by kernel_rfl) (by simp) ?_
          intro N hN
          simp only [wpSegs, List.map_cons, List.map_nil, List.getD_cons_zero, List.getD_cons_succ]
          have B4 := al_old (o' := .cells #[.int .i64 3, .bool false, .int .i64 0, .int .i64 0, .string ⟨#[]⟩, .int .i64 0, .int .i64 0, .slice a3 0 m3, .slice b3 n3 d3, .slice f3 0 g3] 75 (0, 0)) B3
          have D4 := al_old (o' := .cells #[.int .i64 3, .bool false, .int .i64 0, .int .i64 0, .string ⟨#[]⟩, .int .i64 0, .int .i64 0, .slice a3 0 m3, .slice b3 n3 d3, .slice f3 0 g3] 75 (0, 0)) D3
          have T4 := al_old (o' := .cells #[.int .i64 3, .bool false, .int .i64 0, .int .i64 0, .string ⟨#[]⟩, .int .i64 0, .int .i64 0, .slice a3 0 m3, .slice b3 n3 d3, .slice f3 0 g3] 75 (0, 0)) T3
          go_wp2_with (refine wpList_sto _ rfl (.tmp 4) (.tmp 55) 75 rfl B4 (by kernel_rfl) (by rfl) (list_one a3 b3 f3 m3 n3 d3 g3) rfl rfl ?_)
          intro w5 B5 f5 z5
          have D5 := f5.obj D4 (by omega)
          have T5 := f5.obj T4 (by omega)
          have nT5 := lt_of_block T5
          clear t0 t1
          have t0 : w5.cell? ⟨wr.heap.size, 0, none⟩ = some (.int .i64 0) := obj_cell T5 0
          have t1 : w5.cell? ⟨wr.heap.size, 1, none⟩ = some (.int .i64 ((i : Int) + 1)) := obj_cell T5 1
          go_wp2_with (fail)
          refine ⟨again_of rfl rfl ?_, ?_⟩
          · go_simp
          go_wp2_with (refine wpList_sto (vs := [Value.int .i64 0, .int .i64 ((i : Int) + 1)]) _ rfl (.tmp 5) (.tmp 56) 83 rfl D5 (by kernel_rfl) (by rfl) (two_one _ _) rfl rfl ?_)
          intro w6 D6 f6 z6
          have B6 := f6.obj B5 (by omega)
          go_wp2_with (fail)
          go_roundg (n - (i + 1) + 1)
          case measure => have := hG.out; omega
          case rel => exact ⟨i + 1, l ++ [newEl i x], a3, b3, f3, n3, m3, d3, g3, (0, (i : Int) + 1), by go_num, by omega, rfl, (((F3.al _).trans (Frm.drew No _)).then f5 fun k hk h => by omega).then f6 fun k hk h => by omega, B6, D6, Lib.hid (by rw [last_new]; rfl), Lib.hid (by rw [hn3.out]; simp), (((o3.mono (G := fun k => w.heap.size + 2 ≤ k) fun k hk h => by rcases h with h | h; exact h.elim; have := h.1; simp at this; omega).frm ((Frm.alloc No w3 _).trans (Frm.drew No _)) fun k _ h => h).frm f5 fun k h e => by omega).frm f6 fun k h e => by omega, HS1.out⟩
        · have HR := Lib.hid (HS.out.no l1 (by rw [← hx.out]; exact listS_bad hd hx6))
          have HP := Lib.hid (fun W (f : Frm No wr W) => list_insB ((O.frm f fun k _ h => h).rd) hll (by omega : i ≤ 65537) (by omega : 256 < x.size) hxm dl)
          clear hd
          go_wp2_with (fail)
          refine (HC.out _).mono ?_
          rintro e w0 ⟨rfl, rfl⟩
          go_wp2_with (fail)
          refine (HP.out _ ((Frm.refl No _).al _)).mono ?_
          rintro e w3 ⟨ve, vl, vs, rfl, o3, f3'⟩
          obtain ⟨a3, m3, b3, d3, f3, g3, rfl, rfl, rfl⟩ := list_sh (l := []) (n' := 0) (w := w3) (F := Nw No _ w3) ⟨o3.e, o3.l, o3.s⟩ rfl
          unfold cval zeroC
          go_wp2_with (fail)
          go_ret2
          rw [HR.out]
          exact ⟨rfl, ((F.al _).trans f3').al _⟩
    · have hii : ¬ ((i : Int) < n) := by omega
      have HR := Lib.hid (HS.out.fin (by rw [← HN.out]; omega))
      have hwz := HS.out.sz
      have HV := Lib.hid (rgaValues_ok O.rd (listC_b hll) rfl)
      have HWZ : wsz (valsL l) ≤ 140737488355328 := by omega
      clear hwz
      go_wp2_with (fail)
      refine HV.out.mono ?_
      rintro e w2 ⟨a2, n2, m2, rfl, o2, f2⟩
      have R2 := o2.rd
      clear o2
      go_wp2_with (fail)
      refine (cjoin_ok R2 ⟨#[32]⟩ (by decide) HWZ).mono ?_
      rintro e w3 ⟨rfl, f3⟩
      go_wp2_with (fail)
      go_ret2
      rw [HR.out]
      exact ⟨rfl, (F.trans f2).trans f3⟩
end Go.Proofs.YtgpdpalhkkjmiaaGreatDoor

/- The console: numbers. -/
namespace Go.Proofs.YtgpdpalhkkjmiaaGreatDoor
set_option linter.unusedVariables false
set_option linter.unusedSimpArgs false
open Go.RowKit Go.Lib Go.Tt Go.Shelf
theorem bytesW (w : World) (e : TypeId) (t : ByteArray) : Frm No w (Lib.bytesWorld w e t) := by
  unfold Lib.bytesWorld
  exact (Frm.of_below (B := w.heap.size) (Lib.below_freeze ((Below.drew (Below.refl _ w)).alloc (Nat.le_refl _) _) (p := ⟨w.heap.size, _, none⟩) (Nat.le_refl _) _)).mono fun k hk h => absurd hk (Nat.not_lt.2 h)
theorem t256 : (Tryz.prog.info? (Tryz.lays160_ren.t 116)).map (fun i => (i.zero, i.size)) = some (some (.agg (Array.replicate 256 (.bool false))), 256) := by kernel_rfl
theorem dig_ascii : ∀ (j : Nat) b, (⟨#[48, 49, 50, 51, 52, 53, 54, 55, 56, 57]⟩ : ByteArray).data.toList[j]? = some b → b.toNat < 128 := ascii_of_all (by decide)
theorem trimDig_ok (s : ByteArray) (hs : s.size ≤ 9223372036854775807) (w : World) : Calls Tryz.prog 87 #[.string s, .string ⟨#[48, 49, 50, 51, 52, 53, 54, 55, 56, 57]⟩] w fun e w' => e = .returned (.string ⟨(Lib.trimS s.data.toList digSet).toArray⟩) ∧ Frm No w w' :=
  (Any.strings_Trim_laid Tryz.lays160 t256 s ⟨#[48, 49, 50, 51, 52, 53, 54, 55, 56, 57]⟩ w hs (by decide) dig_ascii).mono fun e w' ⟨he, hb⟩ => ⟨he, (Frm.of_below hb).mono fun k hk hge => absurd hge (by omega)⟩
theorem trimDash_ok (s : ByteArray) (w : World) : Calls Tryz.prog 86 #[.string s, .string ⟨#[45]⟩] w fun e w' => e = .returned (.string (cutB s)) ∧ w = w' :=
  (Tryz.strings_TrimPrefix s ⟨#[45]⟩ w).mono fun e w' ⟨he, hw⟩ => ⟨he, hw.symm⟩
theorem cutB_size (s : ByteArray) : (cutB s).size ≤ s.size := by
  unfold cutB trimPrefix
  rw [size_eq, size_eq]
  show (if hasPrefix s.data.toList [45] = true then s.data.toList.drop 1 else s.data.toList).length ≤ _
  split
  · rw [List.length_drop]; omega
  · exact Nat.le_refl _
theorem decFrom_some : ∀ (l : List UInt8) (a : Nat), l.all dgC = true → ∃ n, decFrom a l = some n
  | [], a, _ => ⟨a, rfl⟩
  | b :: t, a, h => by
    rw [List.all_cons, Bool.and_eq_true] at h
    obtain ⟨d, hd⟩ := dig_c.1 h.1
    obtain ⟨n, hn⟩ := decFrom_some t (a * 10 + d) h.2
    exact ⟨n, by unfold decFrom; rw [hd]; exact hn⟩
theorem numD_ok {l : List UInt8} (h0 : l ≠ []) (h1 : l.length ≤ 6) (h2 : l.all dgC = true) : ∃ n, numD l = some n := by
  obtain ⟨n, hn⟩ := decFrom_some l 0 h2
  refine ⟨n, ?_⟩
  unfold numD
  rw [if_neg, hn]
  have : l.isEmpty = false := by cases l with | nil => exact absurd rfl h0 | cons => rfl
  have h3 : Nat.ble 7 l.length = false := by rw [← Bool.not_eq_true, Nat.ble_eq]; omega
  rw [this, h3, h2]; decide
theorem numD_no {l : List UInt8} (h : l = [] ∨ 7 ≤ l.length ∨ l.all dgC = false) : numD l = none := by
  unfold numD
  rw [if_pos]
  rcases h with rfl | h | h
  · rfl
  · rw [Nat.ble_eq_true_of_le h]; simp
  · rw [h]; simp
theorem numL_cut (l : List UInt8) : numL l = none ↔ numD (trimPrefix l [45]) = none := by
  cases l with
  | nil => exact ⟨fun _ => rfl, fun _ => rfl⟩
  | cons b t =>
    rw [numL_cons]
    unfold trimPrefix hasPrefix
    by_cases hb : b = 45
    · subst hb
      have : List.isPrefixOf [(45 : UInt8)] (45 :: t) = true := by simp [List.isPrefixOf]
      rw [this, if_pos (by decide), if_pos rfl]
      show Option.map _ (numD t) = none ↔ numD t = none
      cases numD t <;> simp
    · have h1 : (b == 45) = false := by simpa using hb
      have : List.isPrefixOf [(45 : UInt8)] (b :: t) = false := by simp [List.isPrefixOf]; exact fun h => hb h.symm
      rw [this, h1, if_neg (by decide), if_neg (by decide)]
      cases numD (b :: t) <;> simp
/-- What number answers. -/
def numR (s : ByteArray) : Int × Bool := match numL s.data.toList with
  | none => (0, false)
  | some n => (n, true)
theorem numR_no {s : ByteArray} (h : numL s.data.toList = none) : numR s = (0, false) := by unfold numR; rw [h]
theorem numR_yes {s : ByteArray} {n : Int} (h : numL s.data.toList = some n) : numR s = (n, true) := by unfold numR; rw [h]
set_option maxRecDepth 100000 in
theorem consNum_ok (s : ByteArray) (hs : s.size ≤ 9223372036854775807) (w : World) : Calls Tryz.prog 64 #[.string s] w fun e w' => e = .returned (.tuple #[.int .i64 (numR s).1, .bool (numR s).2]) ∧ Frm No w w' := by
  have HT := Lib.hid (trimDash_ok s)
  have hcut := cutB_size s
  have hcd : (cutB s).data.toList = trimPrefix s.data.toList [45] := by unfold cutB; simp
  have hnc := numL_cut s.data.toList
  rw [← hcd] at hnc
  obtain ⟨R, hR⟩ : ∃ R, Hid (R = numR s) := ⟨_, Lib.hid rfl⟩
  rw [← hR.out]
  have HNO : numD (cutB s).data.toList = none → R = (0, false) := fun h => by rw [hR.out, numR_no (hnc.2 h)]
  obtain ⟨dg, hdg⟩ : ∃ dg, Hid (dg = cutB s) := ⟨_, Lib.hid rfl⟩
  rw [← hdg.out] at HT HNO hcut hnc
  have HTR := Lib.hid (trimDig_ok dg (by omega))
  have hsz : dg.size = dg.data.toList.length := size_eq dg
  have HCD : Hid (dg.data.toList = trimPrefix s.data.toList [45]) := Lib.hid (by rw [hdg.out]; exact hcd)
  clear hcd
  by_cases h0 : dg.size = 0
  · have hr := Lib.hid (HNO (numD_no (.inl (List.eq_nil_of_length_eq_zero (by omega)))))
    have he : dg.toList = [] := by rw [ByteArray.toList_eq]; exact List.eq_nil_of_length_eq_zero (by omega)
    clear HNO hnc hsz h0 hcut
    go_enter Tryz.func64, Tryz.ntmps64
    go_wp2_with (fail)
    refine (HT.out _).mono ?_
    rintro e w1 ⟨rfl, rfl⟩
    go_wp2_with (fail)
    go_ret2
    rw [hr.out]
    exact ⟨rfl, Frm.refl _ _⟩
  have hne := ba_pos h0
  by_cases h6 : 6 < dg.size
  · have hr := Lib.hid (HNO (numD_no (.inr (.inl (by omega)))))
    clear HNO hnc hsz h0 hcut
    go_enter Tryz.func64, Tryz.ntmps64
    go_wp2_with (fail)
    refine (HT.out _).mono ?_
    rintro e w1 ⟨rfl, rfl⟩
    go_wp2_with (fail)
    go_ret2
    rw [hr.out]
    exact ⟨rfl, Frm.refl _ _⟩
  obtain ⟨tr, htr⟩ : ∃ tr : ByteArray, Hid (tr = ⟨(Lib.trimS dg.data.toList digSet).toArray⟩) := ⟨_, Lib.hid rfl⟩
  rw [← htr.out] at HTR
  have hte : tr.toList = [] ↔ dg.data.toList.all dgC = true := by
    rw [htr.out, ByteArray.toList_eq]
    show (List.toArray _).toList = [] ↔ _
    rw [List.toList_toArray]
    exact trim_dig _
  cases hall : dg.data.toList.all dgC with
  | false =>
    have hr := Lib.hid (HNO (numD_no (.inr (.inr hall))))
    have hn1 : tr.toList.isEmpty = false := by
      cases h : tr.toList with
      | nil => rw [hte.1 h] at hall; cases hall
      | cons => rfl
    clear HNO hnc hsz h0 hcut hall hte
    go_enter Tryz.func64, Tryz.ntmps64
    go_wp2_with (fail)
    refine (HT.out _).mono ?_
    rintro e w1 ⟨rfl, rfl⟩
    go_wp2_with (fail)
    refine (HTR.out _).mono ?_
    rintro e w2 ⟨rfl, f2⟩
    go_wp2_with (fail)
    go_ret2
    rw [hr.out]
    exact ⟨rfl, f2⟩
  | true =>
    have hn1 : tr.toList = [] := hte.2 hall
    obtain ⟨m, hm⟩ := numD_ok (l := dg.data.toList) (fun h => by rw [h] at hsz; exact h0 hsz) (by omega) hall
    obtain ⟨n, hn⟩ : ∃ n, numL s.data.toList = some n := by
      cases h : numL s.data.toList with
      | none => rw [hnc.1 h] at hm; cases hm
      | some n => exact ⟨n, rfl⟩
    have hr : Hid (R = (n, true)) := Lib.hid (by rw [hR.out, numR_yes hn])
    have hat := num_atoi hn
    have HA := Lib.hid (Tryz.strconv_Atoi s n (by rw [size_eq]; omega) hat.1)
    clear HNO hnc hsz h0 hcut hall hte hm hn hat
    go_enter Tryz.func64, Tryz.ntmps64
    go_wp2_with (fail)
    refine (HT.out _).mono ?_
    rintro e w1 ⟨rfl, rfl⟩
    go_wp2_with (fail)
    refine (HTR.out _).mono ?_
    rintro e w2 ⟨rfl, f2⟩
    go_wp2_with (fail)
    refine (HA.out _).mono ?_
    rintro e w3 ⟨rfl, t, hw3⟩
    have f3 : Frm No w2 w3 := by rw [hw3]; exact bytesW w2 _ t
    clear hw3
    go_wp2_with (fail)
    go_ret2
    rw [hr.out]
    exact ⟨rfl, f2.trans f3⟩
end Go.Proofs.YtgpdpalhkkjmiaaGreatDoor

/- Merged: ConS ConT. -/
import Derived.Test.YtgpdpalhkkjmiaaGreatDoorV11
import Derived.Test.YtgpdpalhkkjmiaaGreatDoorV14
import Derived.Test.YtgpdpalhkkjmiaaGreatDoorV19
import Derived.Test.YtgpdpalhkkjmiaaGreatDoorV20
import Derived.Test.YtgpdpalhkkjmiaaGreatDoorV22
/- The console: words, strings.Join, sets. -/
namespace Go.Proofs.YtgpdpalhkkjmiaaGreatDoor
set_option linter.unusedVariables false
set_option linter.unusedSimpArgs false
set_option linter.unusedVariables false
set_option linter.unusedSimpArgs false
open Go.RowKit Go.Lib Go.Tt Go.Shelf
/-- Words' bytes, each with one more. -/
def wsz : List ByteArray → Nat
  | [] => 0
  | w :: t => w.size + 1 + wsz t
theorem wsz_len : ∀ l : List ByteArray, l.length ≤ wsz l
  | [] => Nat.le_refl _
  | w :: t => by have := wsz_len t; rw [List.length_cons]; unfold wsz; omega
theorem wsz_at : ∀ {l : List ByteArray} {i : Nat} (h : i < l.length), l[i].size + 1 ≤ wsz l
  | w :: t, 0, _ => by unfold wsz; simp
  | w :: t, i + 1, h => by
    have hi : i < t.length := by simpa using h
    have := wsz_at hi
    show t[i].size + 1 ≤ w.size + 1 + wsz t
    omega
theorem wsz_bd {m : Nat} : ∀ {l : List ByteArray}, (∀ w ∈ l, w.size ≤ m) → wsz l ≤ l.length * (m + 1)
  | [], _ => Nat.zero_le _
  | w :: t, h => by
    have h1 := h w (List.mem_cons_self ..)
    have h2 := wsz_bd (l := t) fun v hv => h v (List.mem_cons_of_mem _ hv)
    rw [List.length_cons, Nat.add_mul, Nat.one_mul]
    unfold wsz
    omega
theorem wsz_app : ∀ (l m : List ByteArray), wsz (l ++ m) = wsz l + wsz m
  | [], m => by simp [wsz]
  | w :: t, m => by
    have := wsz_app t m
    show w.size + 1 + wsz (t ++ m) = w.size + 1 + wsz t + wsz m
    omega
theorem wsz_drop (l : List ByteArray) (i : Nat) : wsz (l.drop i) ≤ wsz l := by
  have := wsz_app (l.take i) (l.drop i)
  rw [List.take_append_drop] at this
  omega
theorem joinT_nil (sep : List UInt8) : joinT [] sep = [] := by simp [joinT, Lib.join_nil]
theorem joinTail_wsz (sep : List UInt8) (hs : sep.length ≤ 1) : ∀ l : List ByteArray, (Lib.joinTail sep (l.map fun s => s.data.toList)).length ≤ wsz l
  | [] => by simp [Lib.joinTail]
  | w :: t => by
    have h := joinTail_wsz sep hs t
    have hw : w.data.toList.length = w.size := (size_eq w).symm
    unfold Lib.joinTail at *
    unfold wsz
    simp only [List.map_cons, List.flatten_cons, List.length_append]
    omega
theorem join_wsz (l : List ByteArray) (sep : List UInt8) (hs : sep.length ≤ 1) : (joinT l sep).length ≤ wsz l := by
  cases l with
  | nil => rw [joinT_nil]; exact Nat.zero_le _
  | cons w t =>
    have h := joinTail_wsz sep hs t
    have hw : w.data.toList.length = w.size := (size_eq w).symm
    unfold joinT
    rw [List.map_cons, Lib.join_cons, List.length_append]
    unfold wsz
    omega
/-- strings.Join. -/
theorem cjoin_ok {w : World} {a : Option Addr} {n c : Nat} {ss : List ByteArray} (h : RdS w eStr (.slice a n c) ss) (sep : ByteArray) (hs : sep.size ≤ 1) (hl : wsz ss ≤ 140737488355328) :
    Calls Tryz.prog 68 #[.slice a n c, .string sep] w fun e w' => e = .returned (.string ⟨(joinT ss sep.data.toList).toArray⟩) ∧ Frm No w w' := by
  have hn := h.facts
  cases ss with
  | nil =>
    obtain rfl : n = 0 := hn.1
    rw [joinT_nil]
    exact (Tryz.strings_Join_none a c sep w).mono fun e w' ⟨he, hw⟩ => ⟨he, by rw [hw]; exact Frm.refl _ _⟩
  | cons s ss =>
    have h0 : 0 < (s :: ss).length := by simp
    obtain ⟨b, off, rfl, hbb, -⟩ := h.at h0
    have hw := wsz_len (s :: ss)
    have hj := join_wsz (s :: ss) sep.data.toList (by rw [← size_eq]; exact hs)
    unfold joinT at hj
    have hJ := Tryz.strings_Join b off c (s :: ss) sep w (fun j x hx => by
      obtain ⟨hj, rfl⟩ := List.getElem?_eq_some_iff.1 hx
      obtain ⟨b', off', e, -, hc⟩ := h.at hj
      simp only [Option.some.injEq, Addr.mk.injEq, and_true] at e
      obtain ⟨rfl, rfl⟩ := e
      have := hc 0 _ rfl
      rwa [show off + (j * eStr.k + 0) = off + j from by show off + (j * 1 + 0) = off + j; omega] at this) hbb (by omega) (by rw [← hn.1]; exact hn.2.1) (by omega)
    rw [← hn.1] at hJ
    exact hJ.mono fun e w' ⟨he, hb⟩ => ⟨he, (Frm.of_below hb).mono fun k hk hge => absurd hge (by omega)⟩
/-- What set tells. -/
def setR (ws : List ByteArray) : List UInt8 × Int := match setG 0 [] ws with
  | none => ([], 900)
  | some l => (joinT (valsI l) [32], 0)
/-- What the values of a set that was laid so are like. -/
theorem setS_vl {l : List En} {i : Nat} {w : ByteArray} {l' : List En} (h : ∀ e ∈ l, e.2.2.size ≤ 256) (hs : setS i l w = some l') : ∀ e ∈ l', e.2.2.size ≤ 256 := by
  unfold setS at hs
  split at hs
  · cases hs
    exact fun e he => h e ((List.mem_filter.1 he).1)
  · split at hs
    · cases hs
    · rename_i hb
      cases hs
      intro e he
      rw [List.mem_append, List.mem_singleton] at he
      rcases he with he | rfl
      · exact h e he
      · rcases Nat.lt_or_ge 256 w.size with h1 | h1
        · exact absurd (Nat.ble_eq_true_of_le (show 257 ≤ w.size from h1)) hb
        · exact h1
theorem valsI_len : ∀ l : List En, (valsI l).length ≤ l.length
  | [] => Nat.le_refl _
  | e :: t => by
    have h := valsI_len t
    have key : ∀ (x : ByteArray) (m : List ByteArray), (insV x m).length ≤ m.length + 1 := by
      intro x m
      induction m with
      | nil => simp [insV]
      | cons y m ih =>
        unfold insV
        split
        · simp
        · split
          · simp
          · rw [List.length_cons, List.length_cons]; omega
    have := key e.2.2 (valsI t)
    show (insV e.2.2 (valsI t)).length ≤ (e :: t).length
    rw [List.length_cons]; omega
/-- How the sets of the command stand. -/
structure SetW (ws : List ByteArray) (i : Nat) (l : List En) : Prop where
  inc : IncE l i
  len : l.length ≤ i
  vl : ∀ e ∈ l, e.2.2.size ≤ 256
  go : setG 0 [] ws = setG i l (ws.drop i)
theorem SetW.nil (ws : List ByteArray) : SetW ws 0 [] := ⟨IncE.nil, Nat.le_refl _, by simp, rfl⟩
theorem SetW.step {ws : List ByteArray} {i : Nat} {l l' : List En} (h : SetW ws i l) (hi : i < ws.length) (hs : setS i l ws[i] = some l') : SetW ws (i + 1) l' :=
  ⟨h.inc.step hs, by have := setS_len hs; have := h.len; omega, setS_vl h.vl hs, by
    rw [h.go, List.drop_eq_getElem_cons hi]
    show (match setS i l ws[i] with | none => none | some l' => setG (i + 1) l' (ws.drop (i + 1))) = _
    rw [hs]⟩
theorem SetW.no {ws : List ByteArray} {i : Nat} {l : List En} (h : SetW ws i l) (hi : i < ws.length) (hs : setS i l ws[i] = none) : setR ws = ([], 900) := by
  unfold setR
  rw [h.go, List.drop_eq_getElem_cons hi]
  show (match (match setS i l ws[i] with | none => none | some l' => setG (i + 1) l' (ws.drop (i + 1))) with | none => (([] : List UInt8), (900 : Int)) | some l => _) = _
  rw [hs]
theorem SetW.fin {ws : List ByteArray} {i : Nat} {l : List En} (h : SetW ws i l) (hi : i = ws.length) : setR ws = (joinT (valsOf l) [32], 0) := by
  have : setG 0 [] ws = some l := by rw [h.go, hi, List.drop_length]; rfl
  unfold setR
  rw [this, valsOf_I]
theorem SetW.sz {ws : List ByteArray} {i : Nat} {l : List En} (h : SetW ws i l) : wsz (valsOf l) ≤ i * 257 ∧ (valsOf l).length ≤ i := by
  rw [valsOf_I]
  have h1 : wsz (valsI l) ≤ (valsI l).length * 257 := wsz_bd (m := 256) fun w hw => by
    obtain ⟨e, he, rfl⟩ := mem_valsI.1 hw
    exact h.vl e he
  have h2 := valsI_len l
  have h3 := h.len
  omega
theorem set_one (a b f : Option Addr) (n m d g : Nat) : ∀ u ∈ [Value.int .i64 2, .bool false, .int .i64 0, .int .i64 0, .string ⟨#[]⟩, .int .i64 0, .int .i64 0, .slice a n m, .slice b 0 d, .slice f 0 g], u.oneCell' = true := by
  intro u hu
  simp only [List.mem_cons, List.not_mem_nil, or_false] at hu
  rcases hu with rfl | rfl | rfl | rfl | rfl | rfl | rfl | rfl | rfl | rfl <;> rfl
theorem cut_ok (x : ByteArray) (w : World) : Calls Tryz.prog 69 #[.string x, .string ⟨#[45]⟩] w fun e w' => e = .returned (.tuple #[.string (cutB x), .bool (dashB x)]) ∧ w = w' :=
  (Tryz.strings_CutPrefix x ⟨#[45]⟩ w).mono fun e w' ⟨he, hw⟩ => ⟨he, hw.symm⟩
theorem setS_dash {l : List En} {i : Nat} {x : ByteArray} (h : IncE l i) (hd : dashB x = true) : setS i l x = some (dropped l (dotsOf l (cutB x))) := by
  unfold setS
  rw [if_pos hd, drop_vals h]
theorem setS_put {l : List En} {i : Nat} {x : ByteArray} (h : IncE l i) (hd : dashB x = false) (hx : x.size ≤ 256) : setS i l x = some (putEn l (0, (i : Int) + 1) x) := by
  have e : putEn l (0, (i : Int) + 1) x = l ++ [(0, ((i + 1 : Nat) : Int), x)] := put_end h
  unfold setS
  rw [if_neg (by rw [hd]; decide), if_neg (by rw [Nat.ble_eq]; omega), e]
theorem setS_bad {l : List En} {i : Nat} {x : ByteArray} (hd : dashB x = false) (hx : ¬ x.size ≤ 256) : setS i l x = none := by
  unfold setS
  rw [if_neg (by rw [hd]; decide), if_pos (by rw [Nat.ble_eq]; omega)]
set_option maxHeartbeats 4000000 in
set_option maxRecDepth 100000 in
theorem consSet_ok {w : World} {a : Option Addr} {n c : Nat} {ws : List ByteArray} (h : RdS w eStr (.slice a n c) ws) (hw : wsz ws ≤ 65537) :
    Calls Tryz.prog 48 #[.slice a n c] w fun e w' => e = .returned (.tuple #[.string ⟨(setR ws).1.toArray⟩, .int .i64 (setR ws).2]) ∧ Frm No w w' := by
  have hn := h.facts
  have HN := Lib.hid hn.1
  have R1 := Lib.hid h
  have HW := Lib.hid hw
  have hle : n ≤ 65537 := by have := wsz_len ws; omega
  clear h hn hw
  go_enter Tryz.func48, Tryz.ntmps48
  go_wp2_with (fail)
  go_loopg [17] (n + 1) (fun gg iv wr => ∃ (i : Nat) (l : List En) (a1 b1 f1 : Option Addr) (n1 m1 d1 g1 : Nat), iv = .int .i64 i ∧ i ≤ n ∧ gg = n - i + 1 ∧ Frm No w wr ∧
    wr.heap[w.heap.size]? = some (.cells #[.int .i64 2, .bool false, .int .i64 0, .int .i64 0, .string ⟨#[]⟩, .int .i64 0, .int .i64 0, .slice a1 n1 m1, .slice b1 0 d1, .slice f1 0 g1] 75 (0, 0)) ∧
    CellO wr (fun k => w.heap.size + 1 ≤ k) (setC l) (.slice a1 n1 m1) (.slice b1 0 d1) (.slice f1 0 g1) ∧ SetW ws i l)
  case atStart => exact ⟨0, [], none, none, none, 0, 0, 0, 0, rfl, Nat.zero_le _, by omega, (Frm.refl No w).al _, heap_alloc_new w _, ⟨Ow.nil _ _ _ _ _, Ow.nil _ _ _ _ _, Ow.nil _ _ _ _ _⟩, SetW.nil ws⟩
  case round =>
    obtain ⟨i, l, a1, b1, f1, n1, m1, d1, g1, rfl, hi, hg, F, B, O, S⟩ := hrel
    have hG := Lib.hid hg
    have nB := lt_of_block B
    have HS := Lib.hid S
    have hll : l.length ≤ 1000000 := by have := S.len; omega
    have hw1 : w.heap.size + 1 ≤ wr.heap.size := nB
    obtain ⟨q0, q1, q2, q3, q4, q5, q6, q7, q8, q9⟩ := obj10 B
    clear hg S
    by_cases hlt : i < n
    · have l1 : i < ws.length := by rw [← HN.out]; exact hlt
      obtain ⟨b, off, rfl, hbb, hc⟩ := (R1.out.no F).at l1
      have e0 : wr.cell? ⟨b, off + i, none⟩ = some (.string ws[i]) := by have := hc 0 _ rfl; rwa [show off + (i * eStr.k + 0) = off + i from by show off + (i * 1 + 0) = off + i; omega] at this
      have hxw := wsz_at l1
      clear hc
      obtain ⟨x, hx⟩ : ∃ x, Hid (x = ws[i]) := ⟨_, Lib.hid rfl⟩
      rw [← hx.out] at e0 hxw
      have hxm : x.size ≤ maxLen := by unfold maxLen; have := HW.out; omega
      clear hxw
      have HC := Lib.hid (cut_ok x)
      cases hd : dashB x with
      | true =>
        rw [hd] at HC
        have HS1 := Lib.hid (HS.out.step l1 (by rw [← hx.out]; exact setS_dash HS.out.inc hd))
        clear hd
        go_wp2_with (fail)
        refine (HC.out _).mono ?_
        rintro e w0 ⟨rfl, rfl⟩
        obtain ⟨nd, hnd⟩ : ∃ nd, Hid (nd = (dotsOf l (cutB x)).length) := ⟨_, Lib.hid rfl⟩
        obtain ⟨cb, hcb⟩ : ∃ cb, Hid (cb = cutB x) := ⟨_, Lib.hid rfl⟩
        rw [← hcb.out] at hnd HS1
        rw [← hcb.out]
        go_wp2_with (fail)
        refine (set_dots O.rd hll cb nd hnd.out).mono ?_
        rintro e w2 ⟨a2, m2, rfl, o2, f2⟩
        have B2 := f2.obj B id
        have nB2 := lt_of_block B2
        have F2 := F.trans f2
        replace O := O.frm f2 fun k _ h => h
        clear q0 q1 q2 q3 q4 q5 q6 q7 q8 q9 B e0
        obtain ⟨q0, q1, q2, q3, q4, q5, q6, q7, q8, q9⟩ := obj10 B2
        obtain ⟨n3, hn3⟩ : ∃ n3, Hid (n3 = (dropped l (dotsOf l cb)).length) := ⟨_, Lib.hid rfl⟩
        have R2 := o2.rd
        have z2 := f2.size
        clear o2 f2
        go_wp2_with (fail)
        refine (set_drop O.rd hll R2 n3 hn3.out).mono ?_
        rintro e w3 ⟨a3, m3, b3, d3, f3, g3, rfl, o3, f3'⟩
        have B3 := f3'.obj B2 id
        have nB3 := lt_of_block B3
        have F3 := F2.trans f3'
        clear q0 q1 q2 q3 q4 q5 q6 q7 q8 q9 B2 R2
        go_wp2_with (refine wpList_sto _ rfl (.tmp 4) (.tmp 38) 75 rfl B3 (by kernel_rfl) (by rfl) (set_one a3 b3 f3 n3 m3 d3 g3) rfl rfl ?_)
        intro w4 B4 f4 z4
        go_wp2_with (fail)
        go_roundg (n - (i + 1) + 1)
        case measure => have := hG.out; omega
        case rel => exact ⟨i + 1, dropped l (dotsOf l cb), a3, b3, f3, n3, m3, d3, g3, by go_num, by omega, rfl, F3.then f4 fun k hk h => by omega, B4, (o3.mono (G := fun k => w.heap.size + 1 ≤ k) fun k hk h => by rcases h with h | h; exact h.elim; have := h.1; omega).frm f4 fun k h e => by omega, HS1.out⟩
      | false =>
        rw [hd] at HC
        by_cases hx6 : x.size ≤ 256
        · have HS1 := Lib.hid (HS.out.step l1 (by rw [← hx.out]; exact setS_put HS.out.inc hd hx6))
          have hnew := Lib.hid (put_new HS.out.inc)
          obtain ⟨n3, hn3⟩ : ∃ n3, Hid (n3 = l.length + 1) := ⟨_, Lib.hid rfl⟩
          have hdm : dotMay (0, (i : Int) + 1) = true := by unfold dotMay; simp; omega
          have HP := Lib.hid (fun W (f : Frm No wr W) => set_put ((O.frm f fun k _ h => h).rd) hll (0, (i : Int) + 1) hdm x hx6 hnew.out n3 hn3.out)
          clear hd hdm
          go_wp2_with (fail)
          refine (HC.out _).mono ?_
          rintro e w0 ⟨rfl, rfl⟩
          go_wp2_with (fail)
          refine (HP.out _ (Frm.refl _ _)).mono ?_
          rintro e w3 ⟨a3, m3, b3, d3, f3, g3, rfl, o3, f3'⟩
          have B3 := f3'.obj B id
          have nB3 := lt_of_block B3
          have F3 := F.trans f3'
          clear q0 q1 q2 q3 q4 q5 q6 q7 q8 q9 B e0 HP
          go_wp2_with (refine wpList_sto _ rfl (.tmp 4) (.tmp 47) 75 rfl B3 (by kernel_rfl) (by rfl) (set_one a3 b3 f3 n3 m3 d3 g3) rfl rfl ?_)
          intro w4 B4 f4 z4
          go_wp2_with (fail)
          go_roundg (n - (i + 1) + 1)
          case measure => have := hG.out; omega
          case rel => exact ⟨i + 1, putEn l (0, (i : Int) + 1) x, a3, b3, f3, n3, m3, d3, g3, by go_num, by omega, rfl, F3.then f4 fun k hk h => by omega, B4, (o3.mono (G := fun k => w.heap.size + 1 ≤ k) fun k hk h => by rcases h with h | h; exact h.elim; have := h.1; omega).frm f4 fun k h e => by omega, HS1.out⟩
        · have HR := Lib.hid (HS.out.no l1 (by rw [← hx.out]; exact setS_bad hd hx6))
          have HP := Lib.hid (fun W (f : Frm No wr W) => set_put_bad ((O.frm f fun k _ h => h).rd) (0, (i : Int) + 1) x hxm (.inr (.inl (by omega))))
          clear hd
          go_wp2_with (fail)
          refine (HC.out _).mono ?_
          rintro e w0 ⟨rfl, rfl⟩
          go_wp2_with (fail)
          refine (HP.out _ (Frm.refl _ _)).mono ?_
          rintro e w3 ⟨rfl, f3'⟩
          have B3 := f3'.obj B id
          have nB3 := lt_of_block B3
          have F3 := F.trans f3'
          clear q0 q1 q2 q3 q4 q5 q6 q7 q8 q9 B e0 HP
          go_wp2_with (refine wpList_sto (vs := [Value.int .i64 0, .bool false, .int .i64 0, .int .i64 0, .string ⟨#[]⟩, .int .i64 0, .int .i64 0, .slice none 0 0, .slice none 0 0, .slice none 0 0]) _ rfl (.tmp 4) (.tmp 47) 75 rfl B3 (by kernel_rfl) (by rfl) (by decide) rfl rfl ?_)
          intro w4 B4 f4 z4
          go_wp2_with (fail)
          go_ret2
          rw [HR.out]
          exact ⟨rfl, F3.then f4 fun k hk h => by omega⟩
    · have hii : ¬ ((i : Int) < n) := by omega
      have HR := Lib.hid (HS.out.fin (by rw [← HN.out]; omega))
      have hwz := HS.out.sz
      obtain ⟨nv, hnv⟩ : ∃ nv, Hid (nv = (valsOf l).length) := ⟨_, Lib.hid rfl⟩
      have HV := Lib.hid (set_values O.rd hll nv hnv.out)
      have HWZ : wsz (valsOf l) ≤ 140737488355328 := by omega
      clear hwz
      go_wp2_with (fail)
      refine HV.out.mono ?_
      rintro e w2 ⟨a2, m2, rfl, o2, f2⟩
      have R2 := o2.rd
      clear o2
      go_wp2_with (fail)
      refine (cjoin_ok R2 ⟨#[32]⟩ (by decide) HWZ).mono ?_
      rintro e w3 ⟨rfl, f3⟩
      go_wp2_with (fail)
      go_ret2
      rw [HR.out]
      exact ⟨rfl, (F.trans f2).trans f3⟩
end Go.Proofs.YtgpdpalhkkjmiaaGreatDoor

/- The console: gauss.Sum, gauss.Text, rga.At. -/
namespace Go.Proofs.YtgpdpalhkkjmiaaGreatDoor
set_option linter.unusedVariables false
set_option linter.unusedSimpArgs false
open Go.RowKit Go.Lib Go.Tt Go.Shelf
/-- Pairs whose sums are all within what may be. -/
structure PrB (ps : List (Int × Int)) : Prop where
  len : ps.length ≤ 65537
  el : ∀ p ∈ ps, -1000000 < p.1 ∧ p.1 < 1000000 ∧ -1000000 < p.2 ∧ p.2 < 1000000
theorem sumP_app : ∀ (l : List (Int × Int)) (s p : Int × Int), sumP s (l ++ [p]) = ((sumP s l).1 + p.1, (sumP s l).2 + p.2)
  | [], s, p => rfl
  | q :: l, s, p => by
    show sumP (s.1 + q.1, s.2 + q.2) (l ++ [p]) = _
    rw [sumP_app l]; rfl
theorem sumP_bd {ps : List (Int × Int)} (h : PrB ps) : ∀ i, i ≤ ps.length → -(1000000 * (i : Int)) ≤ (sumP (0, 0) (ps.take i)).1 ∧ (sumP (0, 0) (ps.take i)).1 ≤ 1000000 * (i : Int) ∧ -(1000000 * (i : Int)) ≤ (sumP (0, 0) (ps.take i)).2 ∧ (sumP (0, 0) (ps.take i)).2 ≤ 1000000 * (i : Int)
  | 0, _ => by simp [sumP]
  | i + 1, hi => by
    have ih := sumP_bd h i (by omega)
    have he := h.el _ (List.getElem_mem (show i < ps.length by omega))
    rw [List.take_succ_eq_append_getElem (by omega), sumP_app]
    dsimp only
    omega
theorem sumP_step {ps : List (Int × Int)} {i : Nat} (hi : i < ps.length) {x : Int × Int} (hx : Hid (x = ps[i])) : sumP (0, 0) (ps.take (i + 1)) = ((sumP (0, 0) (ps.take i)).1 + x.1, (sumP (0, 0) (ps.take i)).2 + x.2) := by
  rw [List.take_succ_eq_append_getElem hi, ← hx.out, sumP_app]
theorem addPair_in {a b : Int × Int} (ha : -4503599627370496 ≤ a.1 ∧ a.1 ≤ 4503599627370496 ∧ -4503599627370496 ≤ a.2 ∧ a.2 ≤ 4503599627370496) (hb : -4503599627370496 ≤ b.1 ∧ b.1 ≤ 4503599627370496 ∧ -4503599627370496 ≤ b.2 ∧ b.2 ≤ 4503599627370496)
    (hc : -4503599627370496 ≤ a.1 + b.1 ∧ a.1 + b.1 ≤ 4503599627370496 ∧ -4503599627370496 ≤ a.2 + b.2 ∧ a.2 + b.2 ≤ 4503599627370496) : addPair a b = ((a.1 + b.1, a.2 + b.2), 0) := by
  unfold addPair pairMay
  rw [if_pos]
  refine ⟨decide_eq_true ?_, decide_eq_true ?_, decide_eq_true ?_⟩ <;> omega
/-- gauss.Add of a sum so far. -/
theorem add_step {ps : List (Int × Int)} (h : PrB ps) {i : Nat} (hi : i < ps.length) {x : Int × Int} (hx : Hid (x = ps[i])) {s t : Int × Int} (hs : Hid (s = sumP (0, 0) (ps.take i))) (ht : Hid (t = sumP (0, 0) (ps.take (i + 1)))) (w : World) :
    Calls Tryz.prog 89 #[.agg #[.int .i64 s.1, .int .i64 s.2], .agg #[.int .i64 x.1, .int .i64 x.2]] w fun e w' => e = .returned (.tuple #[.agg #[.int .i64 t.1, .int .i64 t.2], .int .i64 0]) ∧ Frm No w w' := by
  have hl := h.len
  have h1 := sumP_bd h i (by omega)
  have h2 := sumP_bd h (i + 1) (by omega)
  have h3 := h.el _ (List.getElem_mem hi)
  rw [← hx.out] at h3
  have hst := sumP_step hi hx
  rw [← hs.out] at h1 hst
  rw [← ht.out] at h2 hst
  rw [hst] at h2
  have ha := addPair_in (a := s) (b := x) (by omega) (by omega) (by dsimp only at h2; omega)
  have := gaussAdd_ok s x w
  rw [ha] at this
  rw [hst]
  exact this
theorem two_one (x y : Int) : ∀ u ∈ [Value.int .i64 x, .int .i64 y], u.oneCell' = true := by
  intro u hu
  simp only [List.mem_cons, List.not_mem_nil, or_false] at hu
  rcases hu with rfl | rfl <;> rfl
set_option maxHeartbeats 4000000 in
set_option maxRecDepth 100000 in
theorem gaussSum_ok {w : World} {a : Option Addr} {n c : Nat} {ps : List (Int × Int)} (h : RdS w eDt (.slice a n c) ps) (hb : PrB ps) {t : Int × Int} (ht : Hid (t = sumP (0, 0) ps)) :
    Calls Tryz.prog 65 #[.slice a n c] w fun e w' => e = .returned (.tuple #[.agg #[.int .i64 t.1, .int .i64 t.2], .int .i64 0]) ∧ Frm No w w' := by
  have hn := h.facts
  have HN := Lib.hid hn.1
  have R1 := Lib.hid h
  have HB := Lib.hid hb
  have hle : n ≤ 65537 := by have := hb.len; omega
  clear h hn hb
  go_enter Tryz.func65, Tryz.ntmps65
  go_wp2_with (fail)
  go_loopg [11] (n + 1) (fun gg iv wr => ∃ (i : Nat) (s : Int × Int), iv = .int .i64 i ∧ i ≤ n ∧ gg = n - i + 1 ∧ Frm No w wr ∧ Hid (s = sumP (0, 0) (ps.take i)) ∧
    wr.heap[w.heap.size]? = some (.cells #[.int .i64 0, .int .i64 0] 65 (0, 0)) ∧ wr.heap[w.heap.size + 1]? = some (.cells #[.int .i64 s.1, .int .i64 s.2] 65 (0, 0)))
  case atStart => exact ⟨0, (0, 0), rfl, Nat.zero_le _, by omega, ((Frm.refl No w).al _).al _, Lib.hid rfl, al_old (heap_alloc_new w _), al_at (by simp)⟩
  case round =>
    obtain ⟨i, s, rfl, hi, hg, F, hs, B, C⟩ := hrel
    have hG := Lib.hid hg
    have nB := lt_of_block B
    have nC := lt_of_block C
    have q0 : wr.cell? ⟨w.heap.size + 1, 0, none⟩ = some (.int .i64 s.1) := obj_cell C 0
    have q1 : wr.cell? ⟨w.heap.size + 1, 1, none⟩ = some (.int .i64 s.2) := obj_cell C 1
    clear hg
    by_cases hlt : i < n
    · have l1 : i < ps.length := by rw [← HN.out]; exact hlt
      obtain ⟨b, off, rfl, hbb, hc⟩ := (R1.out.no F).at l1
      have e0 : wr.cell? ⟨b, off + i * 2, none⟩ = some (.int .i64 ps[i].1) := hc 0 _ rfl
      have e1 : wr.cell? ⟨b, off + i * 2 + 1, none⟩ = some (.int .i64 ps[i].2) := hc 1 _ rfl
      clear hc
      obtain ⟨x, hx⟩ : ∃ x, Hid (x = ps[i]) := ⟨_, Lib.hid rfl⟩
      rw [← hx.out] at e0 e1
      obtain ⟨s', hs'⟩ : ∃ s', Hid (s' = sumP (0, 0) (ps.take (i + 1))) := ⟨_, Lib.hid rfl⟩
      have HA := Lib.hid (add_step HB.out l1 hx hs hs')
      go_wp2_with (fail)
      refine (HA.out _).mono ?_
      rintro e w1 ⟨rfl, f1⟩
      have B1 := f1.obj (al_old B) id
      have C1 := f1.obj (al_old C) id
      have F1 := (F.al _).trans f1
      have nB1 := lt_of_block B1
      have nC1 := lt_of_block C1
      have z1 := obj_frz C1
      clear q0 q1 e0 e1 f1
      go_wp2_with (refine wpList_sto (vs := [Value.int .i64 s'.1, .int .i64 s'.2]) _ rfl (.tmp 4) (.tmp 25) 65 rfl (al_old C1) (by kernel_rfl) (by rfl) (two_one _ _) rfl rfl ?_)
      intro w2 C2 f2 z2
      have B2 := f2.obj (al_old B1) (by omega)
      go_wp2_with (fail)
      go_roundg (n - (i + 1) + 1)
      case measure => have := hG.out; omega
      case rel => exact ⟨i + 1, s', by go_num, by omega, rfl, (F1.al _).then f2 fun k hk h => by omega, hs', B2, C2⟩
    · have hii : ¬ ((i : Int) < n) := by omega
      have z0 := obj_frz B
      have htt : s = t := by rw [hs.out, ht.out, List.take_of_length_le (by rw [← HN.out]; omega)]
      subst htt
      go_wp2_with (refine wpList_sto (vs := [Value.int .i64 s.1, .int .i64 s.2]) _ rfl (.tmp 2) (.tmp 27) 65 rfl B (by kernel_rfl) (by rfl) (two_one _ _) rfl rfl ?_)
      intro w2 B2 f2 z2
      have p0 : w2.cell? ⟨w.heap.size, 0, none⟩ = some (.int .i64 s.1) := obj_cell B2 0
      have p1 : w2.cell? ⟨w.heap.size, 1, none⟩ = some (.int .i64 s.2) := obj_cell B2 1
      go_wp2_with (fail)
      refine bodyPost_ret (v := .tuple #[.agg #[.int .i64 s.1, .int .i64 s.2], .int .i64 0]) (by simp [results, Tryz.results65, go_sem, *]) rfl ?_
      exact ⟨rfl, F.then f2 fun k hk h => by omega⟩
set_option maxRecDepth 100000 in
theorem gaussText_ok (p : Int × Int) (h1 : -4503599627370496 ≤ p.1 ∧ p.1 ≤ 4503599627370496) (h2 : -4503599627370496 ≤ p.2 ∧ p.2 ≤ 4503599627370496) {w : World} (ht : Tab w) :
    Calls Tryz.prog 66 #[.agg #[.int .i64 p.1, .int .i64 p.2]] w fun e w' => e = .returned (.string ⟨(gtext p).toArray⟩) ∧ Frm No w w' := by
  have l1 : (Lib.itoa p.1).length ≤ 21 := Lib.itoa_length_le _ (by omega) (by omega)
  have l2 : (Lib.itoa p.2).length ≤ 21 := Lib.itoa_length_le _ (by omega) (by omega)
  have HI := Lib.hid (fun W (f : Frm No w W) => itoa_ok p.1 h1 (ht.frm f))
  have HJ := Lib.hid (fun W (f : Frm No w W) => itoa_ok p.2 h2 (ht.frm f))
  have B0 := heap_alloc_new w (.cells #[.int .i64 p.1, .int .i64 p.2] 65 (0, 0))
  have F0 : Frm No w (w.alloc (.cells #[.int .i64 p.1, .int .i64 p.2] 65 (0, 0))) := (Frm.refl No w).al _
  clear h1 h2 ht
  go_enter Tryz.func66, Tryz.ntmps66
  by_cases h0 : p.2 = 0
  · have hr : Hid (gtext p = Lib.itoa p.1) := Lib.hid (by unfold gtext; rw [if_pos h0, List.append_nil])
    have hne : (p.2 == 0) = true := by simp [h0]
    clear h0
    go_wp2_with (fail)
    refine (HI.out _ F0).mono ?_
    rintro e w1 ⟨rfl, f1⟩
    have B1 := f1.obj B0 id
    have c1 : w1.cell? ⟨w.heap.size, 1, none⟩ = some (.int .i64 p.2) := obj_cell B1 1
    go_wp2_with (fail)
    go_ret
    rw [hr.out]
    exact ⟨rfl, F0.trans f1⟩
  · have hne : (p.2 == 0) = false := by simp [h0]
    by_cases hp : 0 < p.2
    · have hr : Hid ((⟨(Lib.itoa p.1).toArray⟩ : ByteArray) ++ (⟨#[43]⟩ ++ ⟨(Lib.itoa p.2).toArray⟩) ++ ⟨#[105]⟩ = ⟨(gtext p).toArray⟩) := Lib.hid (by
        unfold gtext
        rw [if_neg h0, if_pos hp]
        apply ByteArray.ext
        simp [ByteArray.data_append])
      go_wp2_with (fail)
      refine (HI.out _ F0).mono ?_
      rintro e w1 ⟨rfl, f1⟩
      have B1 := f1.obj B0 id
      have c1 : w1.cell? ⟨w.heap.size, 1, none⟩ = some (.int .i64 p.2) := obj_cell B1 1
      have F1 := F0.trans f1
      clear f1
      go_wp2_with (fail)
      refine (HJ.out _ F1).mono ?_
      rintro e w2 ⟨rfl, f2⟩
      have B2 := f2.obj B1 id
      clear c1
      have c1 : w2.cell? ⟨w.heap.size, 1, none⟩ = some (.int .i64 p.2) := obj_cell B2 1
      go_wp2_with (fail)
      go_ret
      rw [hr.out]
      exact ⟨rfl, F1.trans f2⟩
    · have hr : Hid ((⟨(Lib.itoa p.1).toArray⟩ : ByteArray) ++ ⟨(Lib.itoa p.2).toArray⟩ ++ ⟨#[105]⟩ = ⟨(gtext p).toArray⟩) := Lib.hid (by
        unfold gtext
        rw [if_neg h0, if_neg hp]
        apply ByteArray.ext
        simp [ByteArray.data_append])
      go_wp2_with (fail)
      refine (HI.out _ F0).mono ?_
      rintro e w1 ⟨rfl, f1⟩
      have B1 := f1.obj B0 id
      have c1 : w1.cell? ⟨w.heap.size, 1, none⟩ = some (.int .i64 p.2) := obj_cell B1 1
      have F1 := F0.trans f1
      clear f1
      go_wp2_with (fail)
      refine (HJ.out _ F1).mono ?_
      rintro e w2 ⟨rfl, f2⟩
      have B2 := f2.obj B1 id
      clear c1
      have c1 : w2.cell? ⟨w.heap.size, 1, none⟩ = some (.int .i64 p.2) := obj_cell B2 1
      go_wp2_with (fail)
      go_ret
      rw [hr.out]
      exact ⟨rfl, F1.trans f2⟩
/-- An element that is not gone: the first. -/
theorem rgaAt_ok {w : World} {c : CellV} {ve vl vs : Value} (h : CellR w c ve vl vs) (hb : CellB c) (hk : c.kind = 3) {x : El} {t : List El} (hx : (c.elems.filter fun e => !e.2.2.2.2) = x :: t) :
    Calls Tryz.prog 75 #[cval c ve vl vs, .int .i64 0] w fun e w' => e = .returned (.tuple #[.agg #[.int .i64 x.1, .int .i64 x.2.1], .int .i64 0]) ∧ Frm No w w' := by
  obtain ⟨he, hl, hs⟩ := h
  obtain ⟨ae, ce, rfl⟩ := he.sh
  obtain ⟨al, cl, rfl⟩ := hl.sh
  obtain ⟨at_, cs, rfl⟩ := hs.sh
  have hbl := hb.l
  unfold cval
  rw [hk]
  have B0 := heap_alloc_new w (.cells #[.int .i64 3, .bool c.set, .int .i64 c.st.1, .int .i64 c.st.2, .string c.value, .int .i64 c.num.1, .int .i64 c.num.2, .slice ae c.ents.length ce, .slice al c.elems.length cl, .slice at_ c.seen.length cs] 75 (0, 0))
  have HK := Lib.hid (fun W (f : Frm No (w.alloc _) W) => kept_ok (f.obj B0 id) rfl rfl (hl.no (((Frm.refl No w).al _).trans f)) hbl)
  have HX := Lib.hid hx
  clear he hl hs hb hk hx hbl B0
  go_enter Tryz.func75, Tryz.ntmps75
  go_wp2_with (fail)
  refine (HK.out _ ((Frm.refl No _).al _)).mono ?_
  rintro e w1 ⟨a1, n1, c1, rfl, o1, f1⟩
  rw [HX.out] at o1
  have D1 : w1.heap[w.heap.size + 1]? = some (.cells #[.int .i64 0, .int .i64 0] 83 (0, 0)) := f1.obj (al_at (by simp)) id
  have F1 := (((Frm.refl No w).al _).al _).trans f1
  have hn := o1.rd.facts
  have hn1 : 0 < n1 := by rw [hn.1, List.length_cons]; omega
  have hn2 : ¬ ((0 : Int) ≥ n1) := by omega
  obtain ⟨b, off, rfl, hbb, hc⟩ := o1.rd.at (i := 0) (by simp)
  have e0 : w1.cell? ⟨b, off, none⟩ = some (.int .i64 x.1) := by have := hc 0 _ rfl; simpa using this
  have e1 : w1.cell? ⟨b, off + 1, none⟩ = some (.int .i64 x.2.1) := by have := hc 1 _ rfl; simpa using this
  have z1 := obj_frz D1
  have nD := lt_of_block D1
  clear hc hn o1 HK f1
  go_wp2_with (refine wpList_sto (vs := [Value.int .i64 x.1, .int .i64 x.2.1]) _ rfl (.tmp 4) (.tmp 31) 83 rfl D1 (by kernel_rfl) (by rfl) (two_one _ _) rfl rfl ?_)
  intro w2 D2 f2 z2
  have p0 : w2.cell? ⟨w.heap.size + 1, 0, none⟩ = some (.int .i64 x.1) := obj_cell D2 0
  have p1 : w2.cell? ⟨w.heap.size + 1, 1, none⟩ = some (.int .i64 x.2.1) := obj_cell D2 1
  go_wp2_with (fail)
  refine bodyPost_ret (v := .tuple #[.agg #[.int .i64 x.1, .int .i64 x.2.1], .int .i64 0]) (by simp [results, Tryz.results75, go_sem, *]) rfl ?_
  exact ⟨rfl, F1.then f2 fun k hk h => by omega⟩
/-- None that is not gone. -/
theorem rgaAt_none {w : World} {c : CellV} {ve vl vs : Value} (h : CellR w c ve vl vs) (hb : CellB c) (hk : c.kind = 3) (hx : (c.elems.filter fun e => !e.2.2.2.2) = []) :
    Calls Tryz.prog 75 #[cval c ve vl vs, .int .i64 0] w fun e w' => e = .returned (.tuple #[.agg #[.int .i64 0, .int .i64 0], .int .i64 1001]) ∧ Frm No w w' := by
  obtain ⟨he, hl, hs⟩ := h
  obtain ⟨ae, ce, rfl⟩ := he.sh
  obtain ⟨al, cl, rfl⟩ := hl.sh
  obtain ⟨at_, cs, rfl⟩ := hs.sh
  have hbl := hb.l
  unfold cval
  rw [hk]
  have B0 := heap_alloc_new w (.cells #[.int .i64 3, .bool c.set, .int .i64 c.st.1, .int .i64 c.st.2, .string c.value, .int .i64 c.num.1, .int .i64 c.num.2, .slice ae c.ents.length ce, .slice al c.elems.length cl, .slice at_ c.seen.length cs] 75 (0, 0))
  have HK := Lib.hid (fun W (f : Frm No (w.alloc _) W) => kept_ok (f.obj B0 id) rfl rfl (hl.no (((Frm.refl No w).al _).trans f)) hbl)
  have HX := Lib.hid hx
  clear he hl hs hb hk hx hbl B0
  go_enter Tryz.func75, Tryz.ntmps75
  go_wp2_with (fail)
  refine (HK.out _ ((Frm.refl No _).al _)).mono ?_
  rintro e w1 ⟨a1, n1, c1, rfl, o1, f1⟩
  rw [HX.out] at o1
  have D1 : w1.heap[w.heap.size + 1]? = some (.cells #[.int .i64 0, .int .i64 0] 83 (0, 0)) := f1.obj (al_at (by simp)) id
  have F1 := (((Frm.refl No w).al _).al _).trans f1
  obtain rfl : n1 = 0 := o1.rd.facts.1
  clear o1 HK f1
  go_wp2_with (refine wpList_sto (vs := [Value.int .i64 0, .int .i64 0]) _ rfl (.tmp 4) (.tmp 26) 83 rfl D1 (by kernel_rfl) (by rfl) (two_one _ _) rfl rfl ?_)
  intro w2 D2 f2 z2
  have p0 : w2.cell? ⟨w.heap.size + 1, 0, none⟩ = some (.int .i64 0) := obj_cell D2 0
  have p1 : w2.cell? ⟨w.heap.size + 1, 1, none⟩ = some (.int .i64 0) := obj_cell D2 1
  go_wp2_with (fail)
  refine bodyPost_ret (v := .tuple #[.agg #[.int .i64 0, .int .i64 0], .int .i64 1001]) (by simp [results, Tryz.results75, go_sem, *]) rfl ?_
  exact ⟨rfl, F1.then f2 fun k hk h => by omega⟩
end Go.Proofs.YtgpdpalhkkjmiaaGreatDoor

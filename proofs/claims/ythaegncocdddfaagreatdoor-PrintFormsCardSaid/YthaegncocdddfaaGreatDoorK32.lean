/- Merged: DocW13. -/
import Derived.Test.YthaegncocdddfaaGreatDoorK17
import Derived.Test.YthaegncocdddfaaGreatDoorK31
/- Documents read: Parse, walked. -/
namespace Go.Proofs.YthaegncocdddfaaGreatDoor
set_option linter.unusedVariables false
set_option linter.unusedSimpArgs false
set_option linter.unusedVariables false
set_option linter.unusedSimpArgs false
open Go.RowKit Go.Lib Go.Tt
/-- A document's value. -/
def dval (v : DocC) : Value := .agg #[.bool v.m, .slice v.d.p v.d.n v.d.c, .slice v.s.p v.s.n v.s.c, .slice v.f.p v.f.n v.f.c]
def zdoc : DocC := ⟨false, nilSh, nilSh, nilSh⟩
/-- What a document reads as. -/
theorem OwFgs.nth {w : World} : ∀ {fs : List Fg} {rs : List FgC} {F : Nat → Prop}, OwFgs w F rs fs → ∀ (i : Nat) (h : i < fs.length) (h' : i < rs.length), RdSs w F (.slice rs[i].s.p rs[i].s.n rs[i].s.c) fs[i].sels
  | [], rs, F, h, i, hi, _ => by simp at hi
  | f :: fs, rs, F, h, i, hi, hi' => by
    obtain ⟨r, rt, G, rfl, hG, _, h2, h3⟩ := h
    cases i with
    | zero => exact (h2.rd).mono fun k _ hk => hG k hk
    | succ i => exact (OwFgs.nth h3 i (by simpa using hi) (by simpa using hi')).mono fun k _ hk => hk.1
theorem nFs_at : ∀ {fs : List Fg} {i : Nat} (h : i < fs.length), nFs (fs.drop i) = nSs fs[i].sels + nFs (fs.drop (i + 1))
  | f :: fs, 0, h => rfl
  | f :: fs, i + 1, h => nFs_at (fs := fs) (i := i) (by simpa using h)
theorem cnt_sels (ss : List Sl) (deep : Int) (t : Tly) : (cnt ss deep t).sels = t.sels + nSs ss := (cnt_le (nSs ss)).2 deep ss _ (Nat.le_refl _)
def cntF (fs : List Fg) (t : Tly) : Tly := fs.foldl (fun t f => cnt f.sels 1 t) t
theorem cntF_at {fs : List Fg} {i : Nat} {t : Tly} (h : i < fs.length) : cntF (fs.drop i) t = cntF (fs.drop (i + 1)) (cnt fs[i].sels 1 t) := by
  rw [List.drop_eq_getElem_cons h]
  rfl
theorem parse_err {s : List UInt8} {e : Int} (h : tokensL s = .inl e) : parseL s = (emDm, e) := by
  unfold parseL; rw [h]
theorem parse_ok {s : List UInt8} {ts : List Tk} (h : tokensL s = .inr ts) : parseL s = if (allL (ts.length + 1) ⟨ts, false⟩ 0 emDm).2.bad then (emDm, 1500) else if 4 < (cntD (allL (ts.length + 1) ⟨ts, false⟩ 0 emDm).1).deep then (emDm, 1501) else if (cntD (allL (ts.length + 1) ⟨ts, false⟩ 0 emDm).1).many || decide (64 < (cntD (allL (ts.length + 1) ⟨ts, false⟩ 0 emDm).1).sels) || decide (8 < (allL (ts.length + 1) ⟨ts, false⟩ 0 emDm).1.decls.length) || decide (8 < (allL (ts.length + 1) ⟨ts, false⟩ 0 emDm).1.frags.length) then (emDm, 1502) else ((allL (ts.length + 1) ⟨ts, false⟩ 0 emDm).1, 0) := by
  unfold parseL; rw [h]
set_option maxHeartbeats 8000000 in
set_option maxRecDepth 100000 in
theorem parse_c (s : ByteArray) (w : World) (hs : s.size ≤ 9223372036854775807) :
    Calls Tryz.prog 10 #[.string s] w fun e w' => ∃ v : DocC, e = .returned (.tuple #[dval v, .int .i64 (parseL s.data.toList).2]) ∧ OwDoc w' (Bt w.heap.size w'.heap.size) v (parseL s.data.toList).1 ∧ Frm No w w' := by
  obtain ⟨Z, hZ⟩ : ∃ Z, Hid (parseL s.data.toList = Z) := ⟨_, Lib.hid rfl⟩
  rw [hZ.out]
  have B0 := heap_alloc_new w (.cells #[.bool false, .slice none 0 0, .slice none 0 0, .slice none 0 0] 26 (0, 0))
  have F0 : Frm No w (w.alloc (.cells #[.bool false, .slice none 0 0, .slice none 0 0, .slice none 0 0] 26 (0, 0))) := (Frm.refl No w).al _
  have HT := tokens_ok s (w.alloc (.cells #[.bool false, .slice none 0 0, .slice none 0 0, .slice none 0 0] 26 (0, 0))) hs
  have e0 : (w.alloc (.cells #[.bool false, .slice none 0 0, .slice none 0 0, .slice none 0 0] 26 (0, 0))).heap.size = w.heap.size + 1 := by simp
  have n0 : w.heap.size < (w.alloc (.cells #[.bool false, .slice none 0 0, .slice none 0 0, .slice none 0 0] 26 (0, 0))).heap.size := by omega
  unfold dval
  go_enter Tryz.func10, Tryz.ntmps10
  go_wp2_with (fail)
  refine HT.mono ?_
  rintro e w1 ⟨hE, f1⟩
  have F1 := F0.trans f1
  have B1 := f1.obj B0 id
  have n1 := lt_of_block B1
  have s1 := f1.size
  rw [e0] at s1
  clear HT F0 B0
  rcases hE with ⟨x, hx, hx0, rfl⟩ | ⟨ts, a, n, c, hx, hl, rfl, O1⟩
  · have hZ1 : Hid (Z = (emDm, x)) := Lib.hid (hZ.out.symm.trans (parse_err hx))
    have b1 : (x != 0) = true := by simpa using hx0
    clear hx hx0 hZ
    go_wp2_with (refine wpList_sto _ rfl (.tmp 2) (.tmp 17) 26 rfl B1 (by exact i_doc) (by rfl) zdoc.one rfl rfl ?_)
    intro w8 B8 f8 z8
    have t0 : w8.cell? ⟨w.heap.size, 0, none⟩ = some (.bool false) := obj_cell B8 0
    have t1 : w8.cell? ⟨w.heap.size, 1, none⟩ = some (.slice none 0 0) := obj_cell B8 1
    have t2 : w8.cell? ⟨w.heap.size, 2, none⟩ = some (.slice none 0 0) := obj_cell B8 2
    have t3 : w8.cell? ⟨w.heap.size, 3, none⟩ = some (.slice none 0 0) := obj_cell B8 3
    go_wp2_with (fail)
    refine bodyPost_ret (v := .tuple #[.agg #[.bool false, .slice none 0 0, .slice none 0 0, .slice none 0 0], .int .i64 x]) (by simp [results, Tryz.results10, go_sem, *]) rfl ?_
    rw [hZ1.out]
    exact ⟨zdoc, rfl, OwDoc.em _ _, F1.then f8 fun k hk e => by have e' : k = w.heap.size := e; omega⟩
  · have hZ1 := Lib.hid (hZ.out.symm.trans (parse_ok hx))
    obtain ⟨Y, hY⟩ : ∃ Y, Hid (allL (ts.length + 1) ⟨ts, false⟩ 0 emDm = Y) := ⟨_, Lib.hid rfl⟩
    rw [hY.out] at hZ1
    have hnn := O1.cap.1
    have PA : PAt (w1.alloc (.cells #[.slice a n c, .bool false] 70 (0, 0))) w1.heap.size ⟨ts, false⟩ := ⟨a, n, c, heap_alloc_new w1 _, (O1.rd.no (Frm.alloc No _ _)), fun g hg => O1.rd.blk_lt hg⟩
    have hpm : (PS.mk ts false).m = ts.length := rfl
    have HA := all_ok PA (by rw [hpm]; exact hl)
    rw [hpm, hY.out] at HA
    have hbd := Lib.hid (allL_n (ts.length + 1) ⟨ts, false⟩ 0 emDm ts.length)
    rw [hY.out] at hbd
    obtain ⟨d, q⟩ := Y
    have FPA : Frm No w (w1.alloc (.cells #[.slice a n c, .bool false] 70 (0, 0))) := F1.al _
    have e1 : (w1.alloc (.cells #[.slice a n c, .bool false] 70 (0, 0))).heap.size = w1.heap.size + 1 := by simp
    clear hx hZ O1 hnn PA hY
    go_wp2_with (fail)
    refine HA.mono ?_
    rintro e w2 ⟨v, rfl, OD, P2, f2⟩
    have F2 : Frm No w w2 := FPA.then f2 fun k hk e => by have e' : k = w1.heap.size := e; omega
    have B2 := f2.obj (al_old (o' := .cells #[.slice a n c, .bool false] 70 (0, 0)) B1) (fun e => by have e' : w.heap.size = w1.heap.size := e; omega)
    have s2 := f2.size
    have n2 := lt_of_block B2
    rw [e1] at s2 OD
    clear HA FPA f2 B1
    have qb : w2.cell? ⟨w1.heap.size, 1, none⟩ = some (.bool q.bad) := by obtain ⟨a, n, c, hb, -⟩ := P2; exact obj_cell hb 1
    have nq := P2.lt
    rcases hbad : q.bad with _ | _
    case true =>
      rw [hbad] at qb
      have hZ2 := Lib.hid (hZ1.out.trans (if_pos hbad))
      clear hZ1 hbad
      go_wp2_with (refine wpList_sto _ rfl (.tmp 2) (.tmp 28) 26 rfl (al_old B2) (by exact i_doc) (by rfl) zdoc.one rfl rfl ?_)
      intro w8 B8 f8 z8
      have t0 : w8.cell? ⟨w.heap.size, 0, none⟩ = some (.bool false) := obj_cell B8 0
      have t1 : w8.cell? ⟨w.heap.size, 1, none⟩ = some (.slice none 0 0) := obj_cell B8 1
      have t2 : w8.cell? ⟨w.heap.size, 2, none⟩ = some (.slice none 0 0) := obj_cell B8 2
      have t3 : w8.cell? ⟨w.heap.size, 3, none⟩ = some (.slice none 0 0) := obj_cell B8 3
      go_wp2_with (fail)
      refine bodyPost_ret (v := .tuple #[.agg #[.bool false, .slice none 0 0, .slice none 0 0, .slice none 0 0], .int .i64 1500]) (by simp [results, Tryz.results10, go_sem, *]) rfl ?_
      rw [hZ2.out]
      exact ⟨zdoc, rfl, OwDoc.em _ _, (F2.al _).then f8 fun k hk e => by have e' : k = w.heap.size := e; omega⟩
    rw [hbad] at qb
    have hZ2 := Lib.hid (hZ1.out.trans (if_neg (by simp [hbad])))
    have hbd2 := hbd.out hbad (by simp [emDm, nSs, nFs, PS.m])
    have HO := Lib.hid OD
    obtain ⟨-, D, S, G, C, rs, h1, h2, h3, h4, h5, h6, h7, h8⟩ := OD
    have hdn := Lib.hid h5.cap.1
    have RS : RdSs w2 (Bt (w1.heap.size + 1) w2.heap.size) (.slice v.s.p v.s.n v.s.c) d.sels := (h6.rd).mono fun k _ hk => (h2 k hk).1
    have RFr := Lib.hid h7.rd
    have RFb : Hid (∀ g, sblk (.slice v.f.p v.f.n v.f.c) = some g → Bt (w1.heap.size + 1) w2.heap.size g) := Lib.hid fun g hg => (h3 g (h7.blk hg)).1
    have hfl := Lib.hid h8.len
    have hfn := Lib.hid h7.cap.1
    have NTH : Hid (∀ (i : Nat) (h : i < d.frags.length) (h' : i < rs.length), RdSs w2 (Bt (w1.heap.size + 1) w2.heap.size) (.slice rs[i].s.p rs[i].s.n rs[i].s.c) d.frags[i].sels) := Lib.hid fun i h h' => (OwFgs.nth h8 i h h').mono fun k _ hk => h4 k hk
    clear h1 h2 h3 h4 h5 h6 h7 h8 hZ1 hbd
    have G3 : Frm No w2 ((w2.alloc (.cells v.l.toArray 26 (0, 0))).alloc (.cells (tlC ⟨0, 0, false⟩) 74 (0, 0))) := ((Frm.refl No w2).al _).al _
    have D3 := al_old (o' := .cells (tlC ⟨0, 0, false⟩) 74 (0, 0)) (heap_alloc_new w2 (.cells v.l.toArray 26 (0, 0)))
    have T3 := heap_alloc_new (w2.alloc (.cells v.l.toArray 26 (0, 0))) (.cells (tlC ⟨0, 0, false⟩) 74 (0, 0))
    have e2 : (w2.alloc (.cells v.l.toArray 26 (0, 0))).heap.size = w2.heap.size + 1 := by simp
    rw [e2] at T3
    have B3 := G3.obj B2 id
    have R3 := RdSs.frm RS G3 fun _ _ _ h => h
    have TD : Hid (cntF d.frags (cnt d.sels 1 ⟨0, 0, false⟩) = cntD d) := Lib.hid rfl
    have hcs := cnt_sels d.sels 1 ⟨0, 0, false⟩
    have HC1 := count_all (nSs d.sels) _ _ _ ⟨0, 0, false⟩ _ _ 1 (Nat.le_refl _) R3 T3 (fun k hk => by have := hk.2; omega) (by omega) (by omega) (by decide) (by show (0 : Int) + _ ≤ _; omega)
    have hs2 := Lib.hid hbd2
    have hcs' := Lib.hid hcs
    have F3w : Frm No w ((w2.alloc (.cells v.l.toArray 26 (0, 0))).alloc (.cells (tlC ⟨0, 0, false⟩) 74 (0, 0))) := F2.trans G3
    obtain ⟨w3, hw3⟩ : ∃ W, Hid ((w2.alloc (.cells v.l.toArray 26 (0, 0))).alloc (.cells (tlC ⟨0, 0, false⟩) 74 (0, 0)) = W) := ⟨_, Lib.hid rfl⟩
    clear hcs hbd2 RS R3 hbad
    go_wp2_with (fail)
    refine HC1.mono ?_
    rw [hw3.out] at G3 D3 B3 F3w
    rintro e w4 ⟨rfl, T4, f4⟩
    rw [hw3.out] at f4
    have s3 : w3.heap.size = w2.heap.size + 2 := by rw [← hw3.out]; simp
    clear HC1 T3 B2 F2
    have d43 : w4.cell? ⟨w2.heap.size, 3, none⟩ = some (.slice v.f.p v.f.n v.f.c) := obj_cell (f4.obj D3 (by omega)) 3
    have n4 := lt_of_block T4
    go_wp2_with (fail)
    go_loopg [38] (rs.length + 1) (fun g iv wr => ∃ (i : Nat) (T : Tly), iv = .int .i64 i ∧ g = rs.length - i + 1 ∧ i ≤ rs.length ∧ Hid (cntF (d.frags.drop i) T = cntD d) ∧ wr.heap[w2.heap.size + 1]? = some (.cells (tlC T) 74 (0, 0)) ∧ 0 ≤ T.sels ∧ T.sels + nFs (d.frags.drop i) ≤ 100000 ∧ Frm (fun k => k = w2.heap.size + 1) w3 wr)
    case atStart =>
      have := hcs'.out
      have := hs2.out
      exact ⟨0, _, rfl, by omega, Nat.zero_le _, TD, T4, by rw [hcs'.out]; show 0 ≤ (0 : Int) + _; omega, by rw [hcs'.out]; show (0 : Int) + _ + _ ≤ _; rw [List.drop_zero]; omega, f4⟩
    case round =>
      clear T4 f4 d43 n4
      obtain ⟨i, T, rfl, hg, hi, hT, B, hs0, hs1, F⟩ := hrel
      have hG := Lib.hid hg
      clear hg
      have DR := F.obj D3 (by omega)
      have BR := F.obj B3 (by omega)
      have FR : Frm No w wr := F3w.then F fun k hk e => by have e' : k = w2.heap.size + 1 := e; omega
      have d3 : wr.cell? ⟨w2.heap.size, 3, none⟩ = some (.slice v.f.p v.f.n v.f.c) := obj_cell DR 3
      have nbr := lt_of_block B
      have nbd := lt_of_block DR
      by_cases hlt : i < rs.length
      · have hlt' : i < d.frags.length := by have := hfl.out; omega
        have hvn : v.f.n = rs.length := hfn.out
        obtain ⟨b, off, hbo, hbl, hc⟩ := RFr.out.at hlt
        have hFb := RFb.out b (by
          obtain ⟨m, hm⟩ : ∃ m, v.f.n = m + 1 := ⟨v.f.n - 1, by omega⟩
          rw [hbo, hm]; rfl)
        have c2 : wr.cell? ⟨b, off + i * 3 + 2, none⟩ = some (.slice rs[i].s.p rs[i].s.n rs[i].s.c) := by
          have h1 : w2.cell? ⟨b, off + i * 3 + 2, none⟩ = some (.slice rs[i].s.p rs[i].s.n rs[i].s.c) := hc 2 _ rfl
          rw [F.cell (p := ⟨b, off + i * 3 + 2, none⟩) (Nat.lt_of_lt_of_le hbl G3.size) (fun e => by have e' : b = w2.heap.size + 1 := e; omega), G3.cell (p := ⟨b, off + i * 3 + 2, none⟩) hbl id]
          exact h1
        have RFi := RdSs.frm (RdSs.frm (NTH.out i hlt' hlt) G3 fun _ _ _ h => h) F fun k _ hk e => by have e' : k = w2.heap.size + 1 := e; have := hk.2; omega
        have hna := nFs_at hlt'
        have hcf := cntF_at (t := T) hlt'
        have hci := cnt_sels d.frags[i].sels 1 T
        have HCI := Lib.hid (count_all (nSs d.frags[i].sels) _ _ _ T _ _ 1 (Nat.le_refl _) RFi B (fun k hk => by have := hk.2; omega) (by omega) (by omega) hs0 (by omega))
        have hna' := Lib.hid hna
        have hci' := Lib.hid hci
        have hcf' : Hid (cntF (d.frags.drop (i + 1)) (cnt d.frags[i].sels 1 T) = cntD d) := Lib.hid (hcf.symm.trans hT.out)
        rw [hbo, hvn] at d3
        have hrn : rs.length ≤ 9223372036854775807 := by
          have h3 := RFr.out.facts.2.2.1
          have h4 := RFr.out.facts.2.1
          unfold maxLen at h3
          omega
        have hlv : (i : Int) < (v.f.n : Int) := by omega
        clear hc RFi hna hci hcf hT hbo hvn hfn
        go_wp2_with (fail)
        refine HCI.out.mono ?_
        rintro e w5 ⟨rfl, B5, f5⟩
        go_wp2_with (fail)
        go_roundg (rs.length - (i + 1) + 1)
        case measure => have := hG.out; omega
        case rel => exact ⟨i + 1, _, by go_num, rfl, hlt, hcf', B5, by rw [hci'.out]; omega, by rw [hci'.out]; have := hna'.out; omega, F.trans f5⟩
      · obtain rfl : i = rs.length := by omega
        have hlv : ¬ ((rs.length : Nat) : Int) < (v.f.n : Int) := by have := hfn.out; omega
        have hTD : Hid (T = cntD d) := Lib.hid (by rw [← hT.out, hfl.out, List.drop_of_length_le (Nat.le_refl _)]; rfl)
        have d0 : wr.cell? ⟨w2.heap.size, 0, none⟩ = some (.bool v.m) := obj_cell DR 0
        have d1 : wr.cell? ⟨w2.heap.size, 1, none⟩ = some (.slice v.d.p v.d.n v.d.c) := obj_cell DR 1
        have d2 : wr.cell? ⟨w2.heap.size, 2, none⟩ = some (.slice v.s.p v.s.n v.s.c) := obj_cell DR 2
        have y0 : wr.cell? ⟨w2.heap.size + 1, 0, none⟩ = some (.int .i64 T.deep) := obj_cell B 0
        have y1 : wr.cell? ⟨w2.heap.size + 1, 1, none⟩ = some (.int .i64 T.sels) := obj_cell B 1
        have y2 : wr.cell? ⟨w2.heap.size + 1, 2, none⟩ = some (.bool T.many) := obj_cell B 2
        rw [← hTD.out] at hZ2
        clear hT
        by_cases b1 : (4 : Int) < T.deep
        · have hZ3 := Lib.hid (hZ2.out.trans (if_pos b1))
          clear hZ2
          go_wp2_with (refine wpList_sto _ rfl (.tmp 2) (.tmp 56) 26 rfl BR (by exact i_doc) (by rfl) zdoc.one rfl rfl ?_)
          intro w8 B8 f8 z8
          have t0 : w8.cell? ⟨w.heap.size, 0, none⟩ = some (.bool false) := obj_cell B8 0
          have t1 : w8.cell? ⟨w.heap.size, 1, none⟩ = some (.slice none 0 0) := obj_cell B8 1
          have t2 : w8.cell? ⟨w.heap.size, 2, none⟩ = some (.slice none 0 0) := obj_cell B8 2
          have t3 : w8.cell? ⟨w.heap.size, 3, none⟩ = some (.slice none 0 0) := obj_cell B8 3
          go_wp2_with (fail)
          refine bodyPost_ret (v := .tuple #[.agg #[.bool false, .slice none 0 0, .slice none 0 0, .slice none 0 0], .int .i64 1501]) (by simp [results, Tryz.results10, go_sem, *]) rfl ?_
          rw [hZ3.out]
          exact ⟨zdoc, rfl, OwDoc.em _ _, FR.then f8 fun k hk e => by have e' : k = w.heap.size := e; omega⟩
        rcases hm : T.many with _ | _
        case true =>
          rw [hm] at y2
          have hZ3 := Lib.hid (hZ2.out.trans (by rw [if_neg b1, if_pos (by simp [hm])]))
          clear hZ2
          go_wp2_with (refine wpList_sto _ rfl (.tmp 2) (.tmp 81) 26 rfl BR (by exact i_doc) (by rfl) zdoc.one rfl rfl ?_)
          intro w8 B8 f8 z8
          have t0 : w8.cell? ⟨w.heap.size, 0, none⟩ = some (.bool false) := obj_cell B8 0
          have t1 : w8.cell? ⟨w.heap.size, 1, none⟩ = some (.slice none 0 0) := obj_cell B8 1
          have t2 : w8.cell? ⟨w.heap.size, 2, none⟩ = some (.slice none 0 0) := obj_cell B8 2
          have t3 : w8.cell? ⟨w.heap.size, 3, none⟩ = some (.slice none 0 0) := obj_cell B8 3
          go_wp2_with (fail)
          refine bodyPost_ret (v := .tuple #[.agg #[.bool false, .slice none 0 0, .slice none 0 0, .slice none 0 0], .int .i64 1502]) (by simp [results, Tryz.results10, go_sem, *]) rfl ?_
          rw [hZ3.out]
          exact ⟨zdoc, rfl, OwDoc.em _ _, FR.then f8 fun k hk e => by have e' : k = w.heap.size := e; omega⟩
        rw [hm] at y2
        by_cases k1 : (64 : Int) < T.sels
        · have hZ3 := Lib.hid (hZ2.out.trans (by rw [if_neg b1, if_pos (by simp [k1])]))
          clear hZ2
          go_wp2_with (refine wpList_sto _ rfl (.tmp 2) (.tmp 81) 26 rfl BR (by exact i_doc) (by rfl) zdoc.one rfl rfl ?_)
          intro w8 B8 f8 z8
          have t0 : w8.cell? ⟨w.heap.size, 0, none⟩ = some (.bool false) := obj_cell B8 0
          have t1 : w8.cell? ⟨w.heap.size, 1, none⟩ = some (.slice none 0 0) := obj_cell B8 1
          have t2 : w8.cell? ⟨w.heap.size, 2, none⟩ = some (.slice none 0 0) := obj_cell B8 2
          have t3 : w8.cell? ⟨w.heap.size, 3, none⟩ = some (.slice none 0 0) := obj_cell B8 3
          go_wp2_with (fail)
          refine bodyPost_ret (v := .tuple #[.agg #[.bool false, .slice none 0 0, .slice none 0 0, .slice none 0 0], .int .i64 1502]) (by simp [results, Tryz.results10, go_sem, *]) rfl ?_
          rw [hZ3.out]
          exact ⟨zdoc, rfl, OwDoc.em _ _, FR.then f8 fun k hk e => by have e' : k = w.heap.size := e; omega⟩
        by_cases k2 : 8 < d.decls.length
        · have b2 : (8 : Int) < v.d.n := by have := hdn.out; omega
          have hZ3 := Lib.hid (hZ2.out.trans (by rw [if_neg b1, if_pos (by simp [k2])]))
          clear hZ2
          go_wp2_with (refine wpList_sto _ rfl (.tmp 2) (.tmp 81) 26 rfl BR (by exact i_doc) (by rfl) zdoc.one rfl rfl ?_)
          intro w8 B8 f8 z8
          have t0 : w8.cell? ⟨w.heap.size, 0, none⟩ = some (.bool false) := obj_cell B8 0
          have t1 : w8.cell? ⟨w.heap.size, 1, none⟩ = some (.slice none 0 0) := obj_cell B8 1
          have t2 : w8.cell? ⟨w.heap.size, 2, none⟩ = some (.slice none 0 0) := obj_cell B8 2
          have t3 : w8.cell? ⟨w.heap.size, 3, none⟩ = some (.slice none 0 0) := obj_cell B8 3
          go_wp2_with (fail)
          refine bodyPost_ret (v := .tuple #[.agg #[.bool false, .slice none 0 0, .slice none 0 0, .slice none 0 0], .int .i64 1502]) (by simp [results, Tryz.results10, go_sem, *]) rfl ?_
          rw [hZ3.out]
          exact ⟨zdoc, rfl, OwDoc.em _ _, FR.then f8 fun k hk e => by have e' : k = w.heap.size := e; omega⟩
        have b2 : ¬ (8 : Int) < v.d.n := by have := hdn.out; omega
        by_cases k3 : 8 < d.frags.length
        · have b3 : (8 : Int) < v.f.n := by have h1 := hfn.out; have h2 := hfl.out; omega
          have hZ3 := Lib.hid (hZ2.out.trans (by rw [if_neg b1, if_pos (by simp [k3])]))
          clear hZ2
          go_wp2_with (refine wpList_sto _ rfl (.tmp 2) (.tmp 81) 26 rfl BR (by exact i_doc) (by rfl) zdoc.one rfl rfl ?_)
          intro w8 B8 f8 z8
          have t0 : w8.cell? ⟨w.heap.size, 0, none⟩ = some (.bool false) := obj_cell B8 0
          have t1 : w8.cell? ⟨w.heap.size, 1, none⟩ = some (.slice none 0 0) := obj_cell B8 1
          have t2 : w8.cell? ⟨w.heap.size, 2, none⟩ = some (.slice none 0 0) := obj_cell B8 2
          have t3 : w8.cell? ⟨w.heap.size, 3, none⟩ = some (.slice none 0 0) := obj_cell B8 3
          go_wp2_with (fail)
          refine bodyPost_ret (v := .tuple #[.agg #[.bool false, .slice none 0 0, .slice none 0 0, .slice none 0 0], .int .i64 1502]) (by simp [results, Tryz.results10, go_sem, *]) rfl ?_
          rw [hZ3.out]
          exact ⟨zdoc, rfl, OwDoc.em _ _, FR.then f8 fun k hk e => by have e' : k = w.heap.size := e; omega⟩
        have b3 : ¬ (8 : Int) < v.f.n := by have h1 := hfn.out; have h2 := hfl.out; omega
        have hZ3 := Lib.hid (hZ2.out.trans (by rw [if_neg (by have := b1; omega), if_neg (by simp [hm, k1, k2, k3])]))
        clear hZ2
        go_wp2_with (refine wpList_sto _ rfl (.tmp 2) (.tmp 82) 26 rfl BR (by exact i_doc) (by rfl) v.one rfl rfl ?_)
        intro w8 B8 f8 z8
        have t0 : w8.cell? ⟨w.heap.size, 0, none⟩ = some (.bool v.m) := obj_cell B8 0
        have t1 : w8.cell? ⟨w.heap.size, 1, none⟩ = some (.slice v.d.p v.d.n v.d.c) := obj_cell B8 1
        have t2 : w8.cell? ⟨w.heap.size, 2, none⟩ = some (.slice v.s.p v.s.n v.s.c) := obj_cell B8 2
        have t3 : w8.cell? ⟨w.heap.size, 3, none⟩ = some (.slice v.f.p v.f.n v.f.c) := obj_cell B8 3
        go_wp2_with (fail)
        refine bodyPost_ret (v := .tuple #[.agg #[.bool v.m, .slice v.d.p v.d.n v.d.c, .slice v.s.p v.s.n v.s.c, .slice v.f.p v.f.n v.f.c], .int .i64 0]) (by simp [results, Tryz.results10, go_sem, *]) rfl ?_
        rw [hZ3.out]
        have s8 := FR.size
        refine ⟨v, rfl, (((HO.out.frm G3 fun _ _ h => h).frm F fun k hk e => ?_).frm f8 fun k hk e => ?_).mono fun k hk => ?_, FR.then f8 fun k hk e => by have e' : k = w.heap.size := e; omega⟩
        · have e' : k = w2.heap.size + 1 := e; have := hk.2; omega
        · have e' : k = w.heap.size := e; have := hk.1; omega
        · have h1 := hk.1; have h2 := hk.2; have := F.size; exact ⟨by omega, by omega⟩
end Go.Proofs.YthaegncocdddfaaGreatDoor

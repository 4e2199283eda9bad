/- Merged: DocW8. -/
import Derived.Test.YthaegncocdddfaaGreatDoorK11
/- The parser's steps, walked: sel, what is no spread (printed by gen_sel.py). -/
namespace Go.Proofs.YthaegncocdddfaaGreatDoor
set_option linter.unusedVariables false
set_option linter.unusedSimpArgs false
set_option linter.unusedVariables false
set_option linter.unusedSimpArgs false
open Go.RowKit Go.Lib Go.Tt
set_option maxHeartbeats 8000000 in
set_option maxRecDepth 100000 in
theorem sel_plain {n : Nat} (hset : SetC n) {w : World} {pb : Nat} {p : PS} (h : PAt w pb p) (hm : p.m ≤ 2048) (hn : p.bad = false → p.m < n) (hmk : p.mark tDots = false) :
    Calls Tryz.prog 70 #[.pointer (some ⟨pb, 0, none⟩)] w fun e w' => ∃ r : SelC, e = .returned (.agg r.l.toArray) ∧ OwSel w' (Nb w w') r (selB (setL n) (selH p)).1 ∧ PAt w' pb (selB (setL n) (selH p)).2 ∧ Frm (fun k => k = pb) w w' := by
  have npb := h.lt
  have HS := Lib.hid hset
  have hlh := selH_lt p
  have hlt := m_le hlh.le
  have HMK := Lib.hid (fun W (f : Frm No w W) => pmark_ok (h.no f) tDots)
  rw [hmk] at HMK
  have hH : Hid (selH p = if p.nameS.mark (mC 58) then (p.nameT, p.nameS.adv.nameT, p.nameS.adv.nameS) else (noTx, p.nameT, p.nameS)) := Lib.hid rfl
  have hHn : Hid ((selH p).2.2.bad = false → (selH p).2.2.m < n) := Lib.hid (fun hb => Nat.lt_trans (hlh.2 hb) (hn (nb hlh.1 hb)))
  obtain ⟨⟨al, nm, q⟩, hq⟩ : ∃ x, Hid (selH p = x) := ⟨_, Lib.hid rfl⟩
  rw [hq.out] at hlt hH hHn ⊢
  obtain ⟨R, hR⟩ : ∃ R, Hid (selB (setL n) (al, nm, q) = R) := ⟨_, Lib.hid rfl⟩
  have hB : Hid (R = if q.args.2.ifs.2.mark (mC 123) then (.mk false al nm q.args.1 q.args.2.ifs.1 (setL n q.args.2.ifs.2).1, (setL n q.args.2.ifs.2).2) else (.mk false al nm q.args.1 q.args.2.ifs.1 [], q.args.2.ifs.2)) := Lib.hid hR.out.symm
  have hqm : q.m ≤ 2048 := Nat.le_trans hlt hm
  have hla := m_le (args_le q)
  have hli := m_le (ifs_le q.args.2)
  have hbr : Hid (q.args.2.ifs.2.mark (mC 123) = true → q.args.2.ifs.2.m < n) := Lib.hid (fun hb => Nat.lt_of_le_of_lt (((ifs_le q.args.2).trans (args_le q)).2 (mark_nb hb)) (hHn.out (nb ((ifs_le q.args.2).trans (args_le q)).1 (mark_nb hb))))
  have B0 := heap_alloc_new w (.cells #[.bool false, .string ⟨#[]⟩, .string ⟨#[]⟩, .slice none 0 0, .slice none 0 0, .slice none 0 0] 51 (0, 0))
  have F0 : Frm No w (w.alloc (.cells #[.bool false, .string ⟨#[]⟩, .string ⟨#[]⟩, .slice none 0 0, .slice none 0 0, .slice none 0 0] 51 (0, 0))) := (Frm.refl No w).al _
  have P0 := h.no F0
  have n0 := lt_of_block B0
  rw [hR.out]
  clear hmk h hlh hlt hm hq hHn hset hR
  go_enter Tryz.func70, Tryz.ntmps70
  go_wp2_with (fail)
  refine (HMK.out _ F0).mono ?_
  rintro e w1 ⟨rfl, f1⟩
  have B1 := f1.obj B0 id
  have P1 := P0.no f1
  have F1 := (F0.trans f1).mono (G := fun k => k = pb) fun _ _ h => h.elim
  clear HMK B0 P0 F0 f1
  go_wp2_with (fail)
  refine (pname_ok P1).mono ?_
  rintro e w2 ⟨rfl, P2, f2⟩
  have B2 := f2.obj B1 (by omega)
  have F2 := F1.trans f2
  have l2 := lt_of_block B2
  have npb2 := P2.lt
  clear P1 B1 F1 f2
  have C0 := heap_alloc_new w2 (.cells #[.bool false, .string ⟨#[]⟩, .string p.nameT, .slice none 0 0, .slice none 0 0, .slice none 0 0] 51 (0, 0))
  have HK := Lib.hid (fun W (f : Frm No w2 W) => pmark_ok (P2.no f) (mC 58))
  have hs2 := F2.size
  rcases hc : p.nameS.mark (mC 58) with _ | _
  all_goals
    rw [hc] at HK hH
    clear hc
    go_wp2_with (fail)
    refine (HK.out _ ((Frm.refl No w2).al _)).mono ?_
    rintro e w3 ⟨rfl, f3⟩
    have B3 := f3.obj (al_old B2) id
    have C3 := f3.obj C0 id
    have P3 := (P2.no (Frm.alloc No _ _)).no f3
    have F3 := (F2.al _).trans (f3.mono (G := fun k => k = pb) fun _ _ h => h.elim)
    obtain ⟨tb, htb⟩ : ∃ tb, Hid (w2.heap.size = tb) := ⟨_, Lib.hid rfl⟩
    clear HK B2 C0 P2 F2 f3
  · have h1 := hH.out.trans (if_neg (by decide))
    obtain ⟨rfl, rfl, rfl⟩ : al = noTx ∧ nm = p.nameT ∧ q = p.nameS := by simpa using h1
    clear h1 hH
    rw [htb.out] at C3 hs2 l2 npb2 ⊢
    go_wp2_with (fail)
    refine (args_ok P3 hqm).mono ?_
    rintro e w4 ⟨aa, na, ca, rfl, O4, P4, f4⟩
    have B4 := f4.obj B3 (by omega)
    have C4 := f4.obj C3 (by omega)
    have F4 := F3.trans f4
    have s4 := f4.size
    have l3 := lt_of_block C3
    clear P3 B3 C3 F3 f4
    go_wp2_with (fail)
    refine (ifs_ok P4 (by omega)).mono ?_
    rintro e w5 ⟨ai, ni, ci, rfl, O5, P5, f5⟩
    have B5 := f5.obj B4 (by omega)
    have C5 := f5.obj C4 (by omega)
    have F5 := F4.trans f5
    have l4 := lt_of_block C4
    have s5 := f5.size
    have lw5 := lt_of_block C5
    have lb5 := lt_of_block B5
    have A5 : Ow w5 (fun k => w3.heap.size ≤ k ∧ k < w4.heap.size) 57 eAr (.slice aa na ca) p.nameS.args.1 := (O4.mono (G := fun k => w3.heap.size ≤ k ∧ k < w4.heap.size) fun k hk h => ⟨h, hk⟩).frm f5 fun k hk e => by omega
    have I5 : Ow w5 (fun k => w4.heap.size ≤ k ∧ k < w5.heap.size) 60 eFi (.slice ai ni ci) p.nameS.args.2.ifs.1 := O5.mono (G := fun k => w4.heap.size ≤ k ∧ k < w5.heap.size) fun k hk h => ⟨h, hk⟩
    clear P4 B4 C4 F4 f5 O4 O5
    have zc := obj_frz C5
    have c3 : w5.cell? ⟨tb, 3, none⟩ = some (.slice none 0 0) := obj_cell C5 3
    have c4 : w5.cell? ⟨tb, 4, none⟩ = some (.slice none 0 0) := obj_cell C5 4
    go_wp2_with (fail)
    have G : Frm (fun k => k = tb) w5 ((w5.setCell ⟨tb, 3, none⟩ (.slice aa na ca)).setCell ⟨tb, 4, none⟩ (.slice ai ni ci)) := ((Frm.refl (fun k => k = tb) w5).sc (b := tb) rfl 3 _).sc (b := tb) rfl 4 _
    have C6 : ((w5.setCell ⟨tb, 3, none⟩ (.slice aa na ca)).setCell ⟨tb, 4, none⟩ (.slice ai ni ci)).heap[tb]? = some (.cells #[.bool false, .string noTx, .string p.nameT, .slice aa na ca, .slice ai ni ci, .slice none 0 0] 51 (0, 0)) := by
      have := obj_setCell (i := 4) (obj_setCell (i := 3) C5 (.slice aa na ca)) (.slice ai ni ci)
      simpa [noTx] using this
    have z6 : ((w5.setCell ⟨tb, 3, none⟩ (.slice aa na ca)).setCell ⟨tb, 4, none⟩ (.slice ai ni ci)).heap.size = w5.heap.size := by simp
    obtain ⟨w6, hw6⟩ : ∃ W, (w5.setCell ⟨tb, 3, none⟩ (.slice aa na ca)).setCell ⟨tb, 4, none⟩ (.slice ai ni ci) = W := ⟨_, rfl⟩
    rw [hw6] at G C6 z6 ⊢
    clear hw6 c3 c4 zc C5
    have P6 := P5.frm G (by omega) fun k hk => by omega
    have B6 := G.obj B5 (by omega)
    have F6 := F5.then G fun k hk e => by omega
    have A6 := A5.frm G fun k hk e => by omega
    have I6 := I5.frm G fun k hk e => by omega
    clear P5 B5 F5 A5 I5 G
    have HK6 := pmark_ok P6 (mC 123)
    rcases hb : p.nameS.args.2.ifs.2.mark (mC 123) with _ | _
    · rw [hb] at HK6
      have hRR := Lib.hid (hB.out.trans (if_neg (by rw [hb]; decide)))
      clear hB
      refine HK6.mono ?_
      rintro e w7 ⟨rfl, f7⟩
      have P7 := P6.no f7
      have B7 := f7.obj B6 id
      have C7 := f7.obj C6 id
      have F7 := F6.trans (f7.mono (G := fun k => k = pb) fun _ _ h => h.elim)
      have A7 := A6.no f7
      have I7 := I6.no f7
      have s7 := f7.size
      clear P6 B6 C6 F6 A6 I6 f7 HK6
      have c0 : w7.cell? ⟨tb, 0, none⟩ = some (.bool false) := obj_cell C7 0
      have c1 : w7.cell? ⟨tb, 1, none⟩ = some (.string noTx) := obj_cell C7 1
      have c2 : w7.cell? ⟨tb, 2, none⟩ = some (.string p.nameT) := obj_cell C7 2
      have c3 : w7.cell? ⟨tb, 3, none⟩ = some (.slice aa na ca) := obj_cell C7 3
      have c4 : w7.cell? ⟨tb, 4, none⟩ = some (.slice ai ni ci) := obj_cell C7 4
      have c5 : w7.cell? ⟨tb, 5, none⟩ = some (.slice none 0 0) := obj_cell C7 5
      go_wp2_with (refine wpList_sto _ rfl (.tmp 2) (.tmp 37) 51 rfl B7 (by kernel_rfl) (by rfl) (eSel.one ⟨false, noTx, p.nameT, ⟨aa, na, ca⟩, ⟨ai, ni, ci⟩, ⟨none, 0, 0⟩⟩) rfl rfl ?_)
      intro w8 B8 f8 z8
      have t0 : w8.cell? ⟨w.heap.size, 0, none⟩ = some (.bool false) := obj_cell B8 0
      have t1 : w8.cell? ⟨w.heap.size, 1, none⟩ = some (.string noTx) := obj_cell B8 1
      have t2 : w8.cell? ⟨w.heap.size, 2, none⟩ = some (.string p.nameT) := obj_cell B8 2
      have t3 : w8.cell? ⟨w.heap.size, 3, none⟩ = some (.slice aa na ca) := obj_cell B8 3
      have t4 : w8.cell? ⟨w.heap.size, 4, none⟩ = some (.slice ai ni ci) := obj_cell B8 4
      have t5 : w8.cell? ⟨w.heap.size, 5, none⟩ = some (.slice none 0 0) := obj_cell B8 5
      go_wp2
      refine bodyPost_ret (v := .agg #[.bool false, .string noTx, .string p.nameT, .slice aa na ca, .slice ai ni ci, .slice none 0 0]) (by simp [results, Tryz.results70, go_sem, *]) rfl ?_
      refine ⟨⟨false, noTx, p.nameT, ⟨aa, na, ca⟩, ⟨ai, ni, ci⟩, ⟨none, 0, 0⟩⟩, rfl, ?_, ?_, F7.then f8 fun k hk e => by omega⟩
      · rw [hRR.out]
        exact sel_own (S := fun _ => False) (fun k hk h => ⟨⟨by omega, hk⟩, fun h' => by omega, id⟩) (fun k hk h => ⟨⟨by omega, hk⟩, id⟩) (fun k h => h.elim) (A7.frm f8 fun k hk e => by omega) (I7.frm f8 fun k hk e => by omega) (OwSs.nil _ _ _)
      · rw [hRR.out]
        exact P7.frm f8 (fun e => by omega) fun k hk e => by omega
    · rw [hb] at HK6
      have hRR := Lib.hid (hB.out.trans (if_pos hb))
      clear hB
      have hbn := hbr.out hb
      refine HK6.mono ?_
      rintro e w7 ⟨rfl, f7⟩
      have P7 := P6.no f7
      have B7 := f7.obj B6 id
      have C7 := f7.obj C6 id
      have F7 := F6.trans (f7.mono (G := fun k => k = pb) fun _ _ h => h.elim)
      have A7 := A6.no f7
      have I7 := I6.no f7
      have s7 := f7.size
      clear P6 B6 C6 F6 A6 I6 f7 HK6
      go_wp2_with (fail)
      refine (HS.out _ _ _ P7 (by omega) (fun _ => hbn) (by omega)).mono ?_
      rintro e w8 ⟨as_, ns, cs, rfl, S8, P8, f8⟩
      have B8 := f8.obj B7 (by omega)
      have C8 := f8.obj C7 (by omega)
      have F8 := F7.trans f8
      have A8 := A7.frm f8 fun k hk e => by omega
      have I8 := I7.frm f8 fun k hk e => by omega
      have s8 := f8.size
      have lb8 := lt_of_block B8
      have lc8 := lt_of_block C8
      clear P7 B7 C7 F7 A7 I7 f8
      have zc := obj_frz C8
      have c0 : w8.cell? ⟨tb, 0, none⟩ = some (.bool false) := obj_cell C8 0
      have c1 : w8.cell? ⟨tb, 1, none⟩ = some (.string noTx) := obj_cell C8 1
      have c2 : w8.cell? ⟨tb, 2, none⟩ = some (.string p.nameT) := obj_cell C8 2
      have c3 : w8.cell? ⟨tb, 3, none⟩ = some (.slice aa na ca) := obj_cell C8 3
      have c4 : w8.cell? ⟨tb, 4, none⟩ = some (.slice ai ni ci) := obj_cell C8 4
      have c5 : w8.cell? ⟨tb, 5, none⟩ = some (.slice none 0 0) := obj_cell C8 5
      go_wp2_with (refine wpList_sto _ rfl (.tmp 2) (.tmp 37) 51 rfl (obj_setCell_ne B8 (by omega) _) (by kernel_rfl) (by rfl) (eSel.one ⟨false, noTx, p.nameT, ⟨aa, na, ca⟩, ⟨ai, ni, ci⟩, ⟨as_, ns, cs⟩⟩) rfl rfl ?_)
      intro w9 B9 f9 z9
      have t0 : w9.cell? ⟨w.heap.size, 0, none⟩ = some (.bool false) := obj_cell B9 0
      have t1 : w9.cell? ⟨w.heap.size, 1, none⟩ = some (.string noTx) := obj_cell B9 1
      have t2 : w9.cell? ⟨w.heap.size, 2, none⟩ = some (.string p.nameT) := obj_cell B9 2
      have t3 : w9.cell? ⟨w.heap.size, 3, none⟩ = some (.slice aa na ca) := obj_cell B9 3
      have t4 : w9.cell? ⟨w.heap.size, 4, none⟩ = some (.slice ai ni ci) := obj_cell B9 4
      have t5 : w9.cell? ⟨w.heap.size, 5, none⟩ = some (.slice as_ ns cs) := obj_cell B9 5
      have H9 : Frm (fun k => k = tb ∨ k = w.heap.size) w8 w9 := ((Frm.refl _ w8).sc (b := tb) (Or.inl rfl) 5 _).trans (f9.mono fun k _ h => .inr h)
      go_wp2
      refine bodyPost_ret (v := .agg #[.bool false, .string noTx, .string p.nameT, .slice aa na ca, .slice ai ni ci, .slice as_ ns cs]) (by simp [results, Tryz.results70, go_sem, *]) rfl ?_
      have s9 := H9.size
      refine ⟨⟨false, noTx, p.nameT, ⟨aa, na, ca⟩, ⟨ai, ni, ci⟩, ⟨as_, ns, cs⟩⟩, rfl, ?_, ?_, F8.then H9 fun k hk e => by omega⟩
      · rw [hRR.out]
        refine sel_own (S := Nb w7 w8) (fun k hk h => ⟨⟨by omega, hk⟩, fun h' => by omega, fun h' => ?_⟩) (fun k hk h => ⟨⟨by omega, hk⟩, fun h' => ?_⟩) (fun k h => ?_) (A8.frm H9 fun k hk e => by omega) (I8.frm H9 fun k hk e => by omega) (S8.frm H9 fun k hk e => ?_)
        · unfold Nb at h'; omega
        · unfold Nb at h'; omega
        · unfold Nb at h ⊢; omega
        · unfold Nb at hk; omega
      · rw [hRR.out]
        exact P8.frm H9 (fun e => by omega) fun k hk e => by omega
  · have h1 := hH.out.trans (if_pos (by decide))
    obtain ⟨rfl, rfl, rfl⟩ : al = p.nameT ∧ nm = p.nameS.adv.nameT ∧ q = p.nameS.adv.nameS := by simpa using h1
    clear h1 hH
    rw [htb.out] at C3 hs2 l2 npb2 ⊢
    go_wp2_with (fail)
    refine (take_ok P3).mono ?_
    rintro e w31 ⟨rfl, P31, f31⟩
    have B31 := f31.obj B3 (by omega)
    have C31 := f31.obj C3 (by omega)
    have F31 := F3.trans f31
    have l31 := lt_of_block C31
    have c2 : w31.cell? ⟨tb, 2, none⟩ = some (.string p.nameT) := obj_cell C31 2
    clear P3 B3 C3 F3 f31
    go_wp2_with (fail)
    refine wp_region_plan [([0, 1, 2, 4, 3], [1]), ([5, 6, 7], [])] 38 (by kernel_rfl) (by kernel_rfl) (by simp) ?_
    intro N hN
    simp only [wpSegs, List.map_cons, List.map_nil, List.getD_cons_zero, List.getD_cons_succ]
    go_wp2_with (fail)
    refine (pname_ok (P31.no (Frm.drew No _))).mono ?_
    rintro e w32 ⟨rfl, P32, f32⟩
    have B32 := f32.obj (w := w31.drew) B31 (by omega)
    have C32 := f32.obj (w := w31.drew) C31 (by omega)
    have F32 := (F31.trans (Frm.drew _ w31)).trans f32
    have l32 := lt_of_block C32
    have c21 : w32.cell? ⟨tb, 2, none⟩ = some (.string p.nameT) := obj_cell C32 2
    have c11 : w32.cell? ⟨tb, 1, none⟩ = some (.string ⟨#[]⟩) := obj_cell C32 1
    have zc := obj_frz C32
    clear P31 B31 C31 F31 f32 c2
    go_wp2_with (fail)
    refine ⟨again_cons (again_of rfl rfl ?_) again_nil, ?_⟩
    · go_simp
    go_wp2_with (fail)
    have G : Frm (fun k => k = tb) w32 ((w32.setCell ⟨tb, 1, none⟩ (.string p.nameT)).setCell ⟨tb, 2, none⟩ (.string p.nameS.adv.nameT)) := ((Frm.refl (fun k => k = tb) w32).sc (b := tb) rfl 1 _).sc (b := tb) rfl 2 _
    have C3 : ((w32.setCell ⟨tb, 1, none⟩ (.string p.nameT)).setCell ⟨tb, 2, none⟩ (.string p.nameS.adv.nameT)).heap[tb]? = some (.cells #[.bool false, .string p.nameT, .string p.nameS.adv.nameT, .slice none 0 0, .slice none 0 0, .slice none 0 0] 51 (0, 0)) := by
      have := obj_setCell (i := 2) (obj_setCell (i := 1) C32 (.string p.nameT)) (.string p.nameS.adv.nameT)
      simpa using this
    obtain ⟨w3, hw3⟩ : ∃ W, (w32.setCell ⟨tb, 1, none⟩ (.string p.nameT)).setCell ⟨tb, 2, none⟩ (.string p.nameS.adv.nameT) = W := ⟨_, rfl⟩
    rw [hw3] at G C3 ⊢
    clear hw3 c21 c11 zc C32
    have P3 := P32.frm G (by omega) fun k hk => by omega
    have B3 := G.obj B32 (by omega)
    have F3 := F32.then G fun k hk e => by omega
    clear P32 B32 F32 G
    refine (args_ok P3 hqm).mono ?_
    rintro e w4 ⟨aa, na, ca, rfl, O4, P4, f4⟩
    have B4 := f4.obj B3 (by omega)
    have C4 := f4.obj C3 (by omega)
    have F4 := F3.trans f4
    have s4 := f4.size
    have l3 := lt_of_block C3
    clear P3 B3 C3 F3 f4
    go_wp2_with (fail)
    refine (ifs_ok P4 (by omega)).mono ?_
    rintro e w5 ⟨ai, ni, ci, rfl, O5, P5, f5⟩
    have B5 := f5.obj B4 (by omega)
    have C5 := f5.obj C4 (by omega)
    have F5 := F4.trans f5
    have l4 := lt_of_block C4
    have s5 := f5.size
    have lw5 := lt_of_block C5
    have lb5 := lt_of_block B5
    have A5 : Ow w5 (fun k => w3.heap.size ≤ k ∧ k < w4.heap.size) 57 eAr (.slice aa na ca) p.nameS.adv.nameS.args.1 := (O4.mono (G := fun k => w3.heap.size ≤ k ∧ k < w4.heap.size) fun k hk h => ⟨h, hk⟩).frm f5 fun k hk e => by omega
    have I5 : Ow w5 (fun k => w4.heap.size ≤ k ∧ k < w5.heap.size) 60 eFi (.slice ai ni ci) p.nameS.adv.nameS.args.2.ifs.1 := O5.mono (G := fun k => w4.heap.size ≤ k ∧ k < w5.heap.size) fun k hk h => ⟨h, hk⟩
    clear P4 B4 C4 F4 f5 O4 O5
    have zc := obj_frz C5
    have c3 : w5.cell? ⟨tb, 3, none⟩ = some (.slice none 0 0) := obj_cell C5 3
    have c4 : w5.cell? ⟨tb, 4, none⟩ = some (.slice none 0 0) := obj_cell C5 4
    go_wp2_with (fail)
    have G : Frm (fun k => k = tb) w5 ((w5.setCell ⟨tb, 3, none⟩ (.slice aa na ca)).setCell ⟨tb, 4, none⟩ (.slice ai ni ci)) := ((Frm.refl (fun k => k = tb) w5).sc (b := tb) rfl 3 _).sc (b := tb) rfl 4 _
    have C6 : ((w5.setCell ⟨tb, 3, none⟩ (.slice aa na ca)).setCell ⟨tb, 4, none⟩ (.slice ai ni ci)).heap[tb]? = some (.cells #[.bool false, .string p.nameT, .string p.nameS.adv.nameT, .slice aa na ca, .slice ai ni ci, .slice none 0 0] 51 (0, 0)) := by
      have := obj_setCell (i := 4) (obj_setCell (i := 3) C5 (.slice aa na ca)) (.slice ai ni ci)
      simpa [noTx] using this
    have z6 : ((w5.setCell ⟨tb, 3, none⟩ (.slice aa na ca)).setCell ⟨tb, 4, none⟩ (.slice ai ni ci)).heap.size = w5.heap.size := by simp
    obtain ⟨w6, hw6⟩ : ∃ W, (w5.setCell ⟨tb, 3, none⟩ (.slice aa na ca)).setCell ⟨tb, 4, none⟩ (.slice ai ni ci) = W := ⟨_, rfl⟩
    rw [hw6] at G C6 z6 ⊢
    clear hw6 c3 c4 zc C5
    have P6 := P5.frm G (by omega) fun k hk => by omega
    have B6 := G.obj B5 (by omega)
    have F6 := F5.then G fun k hk e => by omega
    have A6 := A5.frm G fun k hk e => by omega
    have I6 := I5.frm G fun k hk e => by omega
    clear P5 B5 F5 A5 I5 G
    have HK6 := pmark_ok P6 (mC 123)
    rcases hb : p.nameS.adv.nameS.args.2.ifs.2.mark (mC 123) with _ | _
    · rw [hb] at HK6
      have hRR := Lib.hid (hB.out.trans (if_neg (by rw [hb]; decide)))
      clear hB
      refine HK6.mono ?_
      rintro e w7 ⟨rfl, f7⟩
      have P7 := P6.no f7
      have B7 := f7.obj B6 id
      have C7 := f7.obj C6 id
      have F7 := F6.trans (f7.mono (G := fun k => k = pb) fun _ _ h => h.elim)
      have A7 := A6.no f7
      have I7 := I6.no f7
      have s7 := f7.size
      clear P6 B6 C6 F6 A6 I6 f7 HK6
      have c0 : w7.cell? ⟨tb, 0, none⟩ = some (.bool false) := obj_cell C7 0
      have c1 : w7.cell? ⟨tb, 1, none⟩ = some (.string p.nameT) := obj_cell C7 1
      have c2 : w7.cell? ⟨tb, 2, none⟩ = some (.string p.nameS.adv.nameT) := obj_cell C7 2
      have c3 : w7.cell? ⟨tb, 3, none⟩ = some (.slice aa na ca) := obj_cell C7 3
      have c4 : w7.cell? ⟨tb, 4, none⟩ = some (.slice ai ni ci) := obj_cell C7 4
      have c5 : w7.cell? ⟨tb, 5, none⟩ = some (.slice none 0 0) := obj_cell C7 5
      go_wp2_with (refine wpList_sto _ rfl (.tmp 2) (.tmp 37) 51 rfl B7 (by kernel_rfl) (by rfl) (eSel.one ⟨false, p.nameT, p.nameS.adv.nameT, ⟨aa, na, ca⟩, ⟨ai, ni, ci⟩, ⟨none, 0, 0⟩⟩) rfl rfl ?_)
      intro w8 B8 f8 z8
      have t0 : w8.cell? ⟨w.heap.size, 0, none⟩ = some (.bool false) := obj_cell B8 0
      have t1 : w8.cell? ⟨w.heap.size, 1, none⟩ = some (.string p.nameT) := obj_cell B8 1
      have t2 : w8.cell? ⟨w.heap.size, 2, none⟩ = some (.string p.nameS.adv.nameT) := obj_cell B8 2
      have t3 : w8.cell? ⟨w.heap.size, 3, none⟩ = some (.slice aa na ca) := obj_cell B8 3
      have t4 : w8.cell? ⟨w.heap.size, 4, none⟩ = some (.slice ai ni ci) := obj_cell B8 4
      have t5 : w8.cell? ⟨w.heap.size, 5, none⟩ = some (.slice none 0 0) := obj_cell B8 5
      go_wp2
      refine bodyPost_ret (v := .agg #[.bool false, .string p.nameT, .string p.nameS.adv.nameT, .slice aa na ca, .slice ai ni ci, .slice none 0 0]) (by simp [results, Tryz.results70, go_sem, *]) rfl ?_
      refine ⟨⟨false, p.nameT, p.nameS.adv.nameT, ⟨aa, na, ca⟩, ⟨ai, ni, ci⟩, ⟨none, 0, 0⟩⟩, rfl, ?_, ?_, F7.then f8 fun k hk e => by omega⟩
      · rw [hRR.out]
        exact sel_own (S := fun _ => False) (fun k hk h => ⟨⟨by omega, hk⟩, fun h' => by omega, id⟩) (fun k hk h => ⟨⟨by omega, hk⟩, id⟩) (fun k h => h.elim) (A7.frm f8 fun k hk e => by omega) (I7.frm f8 fun k hk e => by omega) (OwSs.nil _ _ _)
      · rw [hRR.out]
        exact P7.frm f8 (fun e => by omega) fun k hk e => by omega
    · rw [hb] at HK6
      have hRR := Lib.hid (hB.out.trans (if_pos hb))
      clear hB
      have hbn := hbr.out hb
      refine HK6.mono ?_
      rintro e w7 ⟨rfl, f7⟩
      have P7 := P6.no f7
      have B7 := f7.obj B6 id
      have C7 := f7.obj C6 id
      have F7 := F6.trans (f7.mono (G := fun k => k = pb) fun _ _ h => h.elim)
      have A7 := A6.no f7
      have I7 := I6.no f7
      have s7 := f7.size
      clear P6 B6 C6 F6 A6 I6 f7 HK6
      go_wp2_with (fail)
      refine (HS.out _ _ _ P7 (by omega) (fun _ => hbn) (by omega)).mono ?_
      rintro e w8 ⟨as_, ns, cs, rfl, S8, P8, f8⟩
      have B8 := f8.obj B7 (by omega)
      have C8 := f8.obj C7 (by omega)
      have F8 := F7.trans f8
      have A8 := A7.frm f8 fun k hk e => by omega
      have I8 := I7.frm f8 fun k hk e => by omega
      have s8 := f8.size
      have lb8 := lt_of_block B8
      have lc8 := lt_of_block C8
      clear P7 B7 C7 F7 A7 I7 f8
      have zc := obj_frz C8
      have c0 : w8.cell? ⟨tb, 0, none⟩ = some (.bool false) := obj_cell C8 0
      have c1 : w8.cell? ⟨tb, 1, none⟩ = some (.string p.nameT) := obj_cell C8 1
      have c2 : w8.cell? ⟨tb, 2, none⟩ = some (.string p.nameS.adv.nameT) := obj_cell C8 2
      have c3 : w8.cell? ⟨tb, 3, none⟩ = some (.slice aa na ca) := obj_cell C8 3
      have c4 : w8.cell? ⟨tb, 4, none⟩ = some (.slice ai ni ci) := obj_cell C8 4
      have c5 : w8.cell? ⟨tb, 5, none⟩ = some (.slice none 0 0) := obj_cell C8 5
      go_wp2_with (refine wpList_sto _ rfl (.tmp 2) (.tmp 37) 51 rfl (obj_setCell_ne B8 (by omega) _) (by kernel_rfl) (by rfl) (eSel.one ⟨false, p.nameT, p.nameS.adv.nameT, ⟨aa, na, ca⟩, ⟨ai, ni, ci⟩, ⟨as_, ns, cs⟩⟩) rfl rfl ?_)
      intro w9 B9 f9 z9
      have t0 : w9.cell? ⟨w.heap.size, 0, none⟩ = some (.bool false) := obj_cell B9 0
      have t1 : w9.cell? ⟨w.heap.size, 1, none⟩ = some (.string p.nameT) := obj_cell B9 1
      have t2 : w9.cell? ⟨w.heap.size, 2, none⟩ = some (.string p.nameS.adv.nameT) := obj_cell B9 2
      have t3 : w9.cell? ⟨w.heap.size, 3, none⟩ = some (.slice aa na ca) := obj_cell B9 3
      have t4 : w9.cell? ⟨w.heap.size, 4, none⟩ = some (.slice ai ni ci) := obj_cell B9 4
      have t5 : w9.cell? ⟨w.heap.size, 5, none⟩ = some (.slice as_ ns cs) := obj_cell B9 5
      have H9 : Frm (fun k => k = tb ∨ k = w.heap.size) w8 w9 := ((Frm.refl _ w8).sc (b := tb) (Or.inl rfl) 5 _).trans (f9.mono fun k _ h => .inr h)
      go_wp2
      refine bodyPost_ret (v := .agg #[.bool false, .string p.nameT, .string p.nameS.adv.nameT, .slice aa na ca, .slice ai ni ci, .slice as_ ns cs]) (by simp [results, Tryz.results70, go_sem, *]) rfl ?_
      have s9 := H9.size
      refine ⟨⟨false, p.nameT, p.nameS.adv.nameT, ⟨aa, na, ca⟩, ⟨ai, ni, ci⟩, ⟨as_, ns, cs⟩⟩, rfl, ?_, ?_, F8.then H9 fun k hk e => by omega⟩
      · rw [hRR.out]
        refine sel_own (S := Nb w7 w8) (fun k hk h => ⟨⟨by omega, hk⟩, fun h' => by omega, fun h' => ?_⟩) (fun k hk h => ⟨⟨by omega, hk⟩, fun h' => ?_⟩) (fun k h => ?_) (A8.frm H9 fun k hk e => by omega) (I8.frm H9 fun k hk e => by omega) (S8.frm H9 fun k hk e => ?_)
        · unfold Nb at h'; omega
        · unfold Nb at h'; omega
        · unfold Nb at h ⊢; omega
        · unfold Nb at hk; omega
      · rw [hRR.out]
        exact P8.frm H9 (fun e => by omega) fun k hk e => by omega
end Go.Proofs.YthaegncocdddfaaGreatDoor

/- Merged: Prn4 Pri. -/
import Derived.Test.YthaegncocdddfaaGreatDoorK20
import Derived.Test.YthaegncocdddfaaGreatDoorK33
import Derived.Test.YthaegncocdddfaaGreatDoorK36
/- The limits: a document's. -/
namespace Go.Proofs.YthaegncocdddfaaGreatDoor
set_option linter.unusedVariables false
set_option linter.unusedSimpArgs false
set_option linter.unusedVariables false
set_option linter.unusedSimpArgs false
open Go.RowKit Go.Lib Go.Tt
theorem capFs_at {fs : List Fg} {i : Nat} {left : Int} (h : i < fs.length) : capFs (fs.drop i) left = ((cap fs[i].sels 1 left).1 && capFs (fs.drop (i + 1)) (cap fs[i].sels 1 left).2) := by
  rw [List.drop_eq_getElem_cons h]
  rfl
set_option maxHeartbeats 8000000 in
set_option maxRecDepth 100000 in
theorem limits_ok {w : World} {FF : Nat → Prop} {db : Nat} {v : DocC} {d : Dm} (hD : w.heap[db]? = some (.cells v.l.toArray 26 (0, 0))) (hR : RdDoc w FF v d) (hF : ∀ k, FF k → k < w.heap.size) :
    Calls Tryz.prog 26 #[.pointer (some ⟨db, 0, none⟩)] w fun e w' => e = .returned (.bool (limD d)) ∧ Frm No w w' := by
  obtain ⟨-, hd, hs, rs, hf, hfs⟩ := hR
  have nd := lt_of_block hD
  have d1 : w.cell? ⟨db, 1, none⟩ = some (.slice v.d.p v.d.n v.d.c) := obj_cell hD 1
  have d2 : w.cell? ⟨db, 2, none⟩ = some (.slice v.s.p v.s.n v.s.c) := obj_cell hD 2
  have d3 : w.cell? ⟨db, 3, none⟩ = some (.slice v.f.p v.f.n v.f.c) := obj_cell hD 3
  have hdn := Lib.hid hd.1.facts.1
  have hfn := Lib.hid (hf.1.facts.1.trans hfs.len)
  obtain ⟨R, hRR⟩ : ∃ R, Hid (limD d = R) := ⟨_, Lib.hid rfl⟩
  rw [hRR.out]
  have hL : Hid (R = (!(decide (8 < d.decls.length) || decide (8 < d.frags.length)) && ((cap d.sels 1 64).1 && capFs d.frags (cap d.sels 1 64).2))) := Lib.hid hRR.out.symm
  clear hRR
  by_cases k1 : (8 : Int) < v.d.n
  · have hRF : Hid (R = false) := Lib.hid (by have := hdn.out; rw [hL.out]; simp; omega)
    clear hd hs hf hfs
    go_enter Tryz.func26, Tryz.ntmps26
    go_wp2_with (fail)
    go_ret
    exact ⟨by rw [hRF.out]; rfl, (Frm.refl No w).al _⟩
  by_cases k2 : (8 : Int) < v.f.n
  · have hRF : Hid (R = false) := Lib.hid (by have := hfn.out; rw [hL.out]; simp; omega)
    clear hd hs hf hfs
    go_enter Tryz.func26, Tryz.ntmps26
    go_wp2_with (fail)
    go_ret
    exact ⟨by rw [hRF.out]; rfl, (Frm.refl No w).al _⟩
  have hL2 : Hid (R = ((cap d.sels 1 64).1 && capFs d.frags (cap d.sels 1 64).2)) := Lib.hid (by
    have h1 := hdn.out
    have h2 := hfn.out
    have e1 : decide (8 < d.decls.length) = false := by simp; omega
    have e2 : decide (8 < d.frags.length) = false := by simp; omega
    rw [hL.out, e1, e2]
    rfl)
  have F0 : Frm No w (w.alloc (.cells #[.int .i64 64] 3 (0, 0))) := (Frm.refl No w).al _
  have B0 := heap_alloc_new w (.cells #[.int .i64 64] 3 (0, 0))
  have hne : ∀ k, FF k → k ≠ w.heap.size := fun k h e => by have := hF k h; omega
  have HC := cap_all 4 _ FF w.heap.size 64 _ _ 1 (hs.frm F0 fun _ _ _ h => h) B0 hne (by decide) (by decide) (by decide) (by decide) (by decide)
  have hbd := cap_bd' (deep := 1) (ss := d.sels) (left := 64) (by decide)
  obtain ⟨⟨q1, q2⟩, hQ⟩ : ∃ Q, Hid (cap d.sels 1 64 = Q) := ⟨_, Lib.hid rfl⟩
  rw [hQ.out] at HC hL2 hbd
  simp only at HC hL2 hbd
  have HF := Lib.hid hf
  have HFS := Lib.hid hfs
  have HNE := Lib.hid hne
  have HLT := Lib.hid hF
  clear hd hs hf hfs hL hne hF hQ
  cases q1
  · have hRF : Hid (R = false) := Lib.hid hL2.out
    go_enter Tryz.func26, Tryz.ntmps26
    go_wp2_with (fail)
    refine HC.mono ?_
    rintro e w1 ⟨rfl, B1, f1⟩
    go_wp2_with (fail)
    go_ret
    exact ⟨by rw [hRF.out]; rfl, F0.then f1 fun k hk e => by have e' : k = w.heap.size := e; omega⟩
  · have hRF : Hid (capFs d.frags q2 = R) := Lib.hid (by rw [hL2.out]; rfl)
    have hq := hbd rfl
    clear hbd hL2
    go_enter Tryz.func26, Tryz.ntmps26
    go_wp2_with (fail)
    refine HC.mono ?_
    rintro e w1 ⟨rfl, B1, f1⟩
    have F1 : Frm No w w1 := F0.then f1 fun k hk e => by have e' : k = w.heap.size := e; omega
    have d31 : w1.cell? ⟨db, 3, none⟩ = some (.slice v.f.p v.f.n v.f.c) := (F1.cell (p := ⟨db, 3, none⟩) nd id).trans d3
    have nd1 := Nat.lt_of_lt_of_le nd F1.size
    go_wp2_with (fail)
    go_loopg [32] (rs.length + 1) (fun g iv wr => ∃ (i : Nat) (T : Int), iv = .int .i64 i ∧ g = rs.length - i + 1 ∧ i ≤ rs.length ∧ Hid (capFs (d.frags.drop i) T = R) ∧ wr.heap[w.heap.size]? = some (.cells #[.int .i64 T] 3 (0, 0)) ∧ 0 ≤ T ∧ T ≤ 64 ∧ Frm No w wr)
    case atStart => exact ⟨0, q2, rfl, by omega, Nat.zero_le _, hRF, B1, hq.1, by omega, F1⟩
    case round =>
      clear B1 F1 d31 nd1 f1 B0 hRF hq
      obtain ⟨i, T, rfl, hg, hi, hT, B, ht0, ht1, F⟩ := hrel
      have hG := Lib.hid hg
      clear hg
      have dr3 : wr.cell? ⟨db, 3, none⟩ = some (.slice v.f.p v.f.n v.f.c) := (F.cell (p := ⟨db, 3, none⟩) nd id).trans d3
      have ndr := Nat.lt_of_lt_of_le nd F.size
      have nbr := lt_of_block B
      have hvn : v.f.n = rs.length := HF.out.1.facts.1
      by_cases hlt : i < rs.length
      · have hlv : (i : Int) < (v.f.n : Int) := by omega
        have hlt' : i < d.frags.length := by have := HFS.out.len; omega
        obtain ⟨b, off, hbo, hbl, hc⟩ := HF.out.1.at hlt
        have c2 : wr.cell? ⟨b, off + i * 3 + 2, none⟩ = some (.slice rs[i].s.p rs[i].s.n rs[i].s.c) := by
          rw [F.cell (p := ⟨b, off + i * 3 + 2, none⟩) hbl id]
          exact hc 2 _ rfl
        have RFi := ((HFS.out.at i hlt' hlt).2).frm F fun _ _ _ h => h
        have hcf := capFs_at (left := T) hlt'
        have hbd := cap_bd' (deep := 1) (ss := d.frags[i].sels) (left := T) ht0
        have HCI := cap_all 4 _ FF w.heap.size T _ _ 1 RFi B HNE.out (by decide) (by decide) (by decide) ht0 ht1
        obtain ⟨⟨p1, p2⟩, hQ⟩ : ∃ Q, Hid (cap d.frags[i].sels 1 T = Q) := ⟨_, Lib.hid rfl⟩
        rw [hQ.out] at HCI hbd hcf
        simp only at HCI hbd hcf
        have hcf' := Lib.hid (hT.out.symm.trans hcf)
        have HCI := Lib.hid HCI
        rw [hbo, hvn] at dr3
        have hr8 : rs.length ≤ 8 := by omega
        clear hc RFi hcf hT hbo hvn hQ
        cases p1
        · have hRF : Hid (R = false) := Lib.hid hcf'.out
          clear hcf'
          go_wp2_with (fail)
          refine HCI.out.mono ?_
          rintro e w5 ⟨rfl, B5, f5⟩
          go_wp2_with (fail)
          go_ret
          exact ⟨by rw [hRF.out]; rfl, F.then f5 fun k hk e => by have e' : k = w.heap.size := e; omega⟩
        · have hRF : Hid (capFs (d.frags.drop (i + 1)) p2 = R) := Lib.hid (by rw [hcf'.out]; rfl)
          have hq := Lib.hid (hbd rfl)
          clear hcf' hbd
          go_wp2_with (fail)
          refine HCI.out.mono ?_
          rintro e w5 ⟨rfl, B5, f5⟩
          go_wp2_with (fail)
          go_roundg (rs.length - (i + 1) + 1)
          case measure => have := hG.out; omega
          case rel => exact ⟨i + 1, p2, by go_num, rfl, hlt, hRF, B5, hq.out.1, by have := hq.out.2; omega, F.then f5 fun k hk e => by have e' : k = w.heap.size := e; omega⟩
      · obtain rfl : i = rs.length := by omega
        have hlv : ¬ ((rs.length : Nat) : Int) < (v.f.n : Int) := by omega
        have hRF : Hid (R = true) := Lib.hid (by rw [← hT.out, HFS.out.len, List.drop_of_length_le (Nat.le_refl _)]; rfl)
        clear hvn
        go_wp2_with (fail)
        go_ret
        exact ⟨by rw [hRF.out]; rfl, F⟩
end Go.Proofs.YthaegncocdddfaaGreatDoor

/- Print, walked. -/
namespace Go.Proofs.YthaegncocdddfaaGreatDoor
set_option linter.unusedVariables false
set_option linter.unusedSimpArgs false
open Go.RowKit Go.Lib Go.Tt
theorem prDoc_ne (d : Dm) : prDoc d ≠ [] := by
  intro h
  have : (prDoc d).length = 0 := by rw [h]; rfl
  unfold prDoc at this
  simp only [List.length_append] at this
  have h1 : (if d.mutn then sp (byL tMut) else sp (byL tQuery)).length ≠ 0 := by cases d.mutn <;> decide
  omega
set_option maxHeartbeats 8000000 in
set_option maxRecDepth 100000 in
theorem print_ok {w : World} {F : Nat → Prop} {v : DocC} {d : Dm} (hr : RdDoc w F v d) (hF : ∀ k, F k → k < w.heap.size) (hI : DmI d) (ht : Tab w) (hlen : limD d = true → (prDoc d).length ≤ 140737488355328) :
    Calls Tryz.prog 12 #[dval v] w fun e w' => ∃ s err, e = .returned (.tuple #[.string s, .int .i64 err]) ∧ PrintIs d s err ∧ Frm No w w' := by
  have hr1 : RdDoc (w.alloc (.cells #[.bool v.m, .slice v.d.p v.d.n v.d.c, .slice v.s.p v.s.n v.s.c, .slice v.f.p v.f.n v.f.c] 26)) F v d := hr.frm (Frm.alloc No w _) fun _ _ _ h => h
  have f1 : Frm No w (w.alloc (.cells #[.bool v.m, .slice v.d.p v.d.n v.d.c, .slice v.s.p v.s.n v.s.c, .slice v.f.p v.f.n v.f.c] 26)) := (Frm.refl No w).al _
  have B1 := heap_alloc_new w (.cells #[.bool v.m, .slice v.d.p v.d.n v.d.c, .slice v.s.p v.s.n v.s.c, .slice v.f.p v.f.n v.f.c] 26)
  have HL := limits_ok (db := w.heap.size) (v := v) B1 hr1 (fun k hk => by rw [World.size_alloc]; have := hF k hk; omega)
  have hnot : ∀ (x : Bool) (w : World), (Op.unary .not (.bool x)).run Tryz.prog w = .ok (.bool (!x)) w := fun _ _ => rfl
  obtain ⟨R, hR⟩ : ∃ R : Ending → World → Prop, R = fun e w' => ∃ s err, e = .returned (.tuple #[.string s, .int .i64 err]) ∧ PrintIs d s err ∧ Frm No w w' := ⟨_, rfl⟩
  rw [← hR]
  have HQ := Lib.hid hR
  have HR1 := Lib.hid hr1
  have HB1 := Lib.hid B1
  have HF1 := Lib.hid f1
  clear hR hr hr1 B1 f1
  unfold dval
  go_enter Tryz.func12, Tryz.ntmps12
  go_wp2_with (fail)
  refine HL.mono ?_
  rintro e w2 ⟨rfl, f2⟩
  have F2 := HF1.out.trans f2
  have R2 := HR1.out.frm f2 fun _ _ _ h => h
  have B2 := f2.obj HB1.out id
  have hs2 := f2.size
  rw [World.size_alloc] at hs2
  clear HL f2 HR1 HB1 HF1
  cases hld : limD d
  · have HLD := Lib.hid hld
    clear hld
    go_wp2_with (fail)
    rw [HQ.out]
    exact ⟨noTx, 1500, rfl, .inr ⟨fun h => (by have h1 := h.1; rw [show limD d = false from by first | exact HLD.out | simpa using HLD.out] at h1; cases h1), rfl, rfl⟩, F2⟩
  · have HLD := Lib.hid hld
    clear hld
    have P3 : PP w2.heap.size (w2.alloc (.cells #[.pointer none, .slice none 0 0] 90)) w2.heap.size [] := by
      refine ⟨FB.new _ (heap_alloc_new w2 _), Nat.le_refl _, (ht.frm F2).frm ((Frm.refl No w2).al _), fun g hg => ?_⟩
      have := ht.b.2 g hg
      omega
    have B3 : (w2.alloc (.cells #[.pointer none, .slice none 0 0] 90)).heap[w.heap.size]? = some (.cells #[.bool v.m, .slice v.d.p v.d.n v.d.c, .slice v.s.p v.s.n v.s.c, .slice v.f.p v.f.n v.f.c] 26 (0, 0)) := al_old B2
    have R3 : RdDoc (w2.alloc (.cells #[.pointer none, .slice none 0 0] 90)) (Lo w2.heap.size) v d := (R2.frm (Frm.alloc No w2 _) fun _ _ _ h => h).mono fun k _ hk => by have := hF k hk; unfold Lo; omega
    have HPD := pdoc_ok P3 B3 (show w.heap.size < w2.heap.size from by omega) R3 hI (hlen (by first | exact HLD.out | simpa using HLD.out))
    have F3 : Frm No w (w2.alloc (.cells #[.pointer none, .slice none 0 0] 90)) := F2.al _
    have HB3 := Lib.hid B3
    have HR3 := Lib.hid R3
    have HF3 := Lib.hid F3
    clear P3 B3 R3 F3 F2 R2 B2
    go_wp2_with (fail)
    refine HPD.mono ?_
    rintro e w4 ⟨rfl, P4, f4⟩
    clear HPD
    have hlo : ∀ (k : Nat), k < w.heap.size + 1 → ¬ Ge w2.heap.size k := fun k hk h => by unfold Ge at h; omega
    have F4 : Frm No w w4 := HF3.out.then f4 fun k hk h => (hlo k (by omega) h).elim
    have B4 := f4.obj HB3.out (hlo _ (by omega))
    have R4 := HR3.out.frm f4 fun k _ hk h => by unfold Lo at hk; unfold Ge at h; omega
    have HST := gstring_ok (P4.1.gb (M := w2.heap.size) P4.2.1 fun k hk => hk.1) (prDoc_ne d)
    clear f4 P4
    go_wp2_with (fail)
    refine HST.mono ?_
    rintro e w5 ⟨rfl, f5⟩
    clear HST
    have F5 : Frm No w w5 := F4.then f5 fun k hk h => (hlo k (by omega) h).elim
    have B5 := f5.obj B4 (hlo _ (by omega))
    have R5 := R4.frm f5 fun k _ hk h => by unfold Lo at hk; exact absurd h (by omega)
    clear f5 F4 B4 R4
    have HLN := hlen (by first | exact HLD.out | simpa using HLD.out)
    obtain ⟨s, hs⟩ : ∃ s : ByteArray, s = ⟨(prDoc d).toArray⟩ := ⟨_, rfl⟩
    have hsl : s.data.toList = prDoc d := by rw [hs]
    have hsz : s.size ≤ 9223372036854775807 := by
      rw [hs]
      show (prDoc d).toArray.size ≤ _
      rw [List.size_toArray]
      omega
    rw [← hs]
    have HPC := parse_c s w5 hsz
    rw [hsl] at HPC
    have HS := Lib.hid hs
    clear hs hsl hsz
    go_wp2_with (fail)
    refine HPC.mono ?_
    rintro e w6 ⟨u, rfl, O6, f6⟩
    clear HPC
    obtain ⟨Z, hZ⟩ : ∃ Z, Z = parseL (prDoc d) := ⟨_, rfl⟩
    rw [← hZ] at O6 ⊢
    have HZ := Lib.hid hZ
    clear hZ
    have F7 : Frm No w (w6.alloc (.cells #[.bool u.m, .slice u.d.p u.d.n u.d.c, .slice u.s.p u.s.n u.s.c, .slice u.f.p u.f.n u.f.c] 26)) := (F5.trans f6).al _
    have B7 : (w6.alloc (.cells #[.bool u.m, .slice u.d.p u.d.n u.d.c, .slice u.s.p u.s.n u.s.c, .slice u.f.p u.f.n u.f.c] 26)).heap[w.heap.size]? = some (.cells #[.bool v.m, .slice v.d.p v.d.n v.d.c, .slice v.s.p v.s.n v.s.c, .slice v.f.p v.f.n v.f.c] 26 (0, 0)) := al_old (f6.obj B5 id)
    have R7 : RdDoc (w6.alloc (.cells #[.bool u.m, .slice u.d.p u.d.n u.d.c, .slice u.s.p u.s.n u.s.c, .slice u.f.p u.f.n u.f.c] 26)) (Lo w2.heap.size) v d := R5.frm (f6.al _) fun _ _ _ h => h
    have O7 : RdDoc (w6.alloc (.cells #[.bool u.m, .slice u.d.p u.d.n u.d.c, .slice u.s.p u.s.n u.s.c, .slice u.f.p u.f.n u.f.c] 26)) (Bt w5.heap.size w6.heap.size) u Z.1 := O6.rd.frm (Frm.alloc No w6 _) fun _ _ _ h => h
    have HSM := same_ok O7 R7
    have m0 : (w6.alloc (.cells #[.bool u.m, .slice u.d.p u.d.n u.d.c, .slice u.s.p u.s.n u.s.c, .slice u.f.p u.f.n u.f.c] 26)).cell? ⟨w.heap.size, 0, none⟩ = some (.bool v.m) := obj_cell B7 0
    have m1 : (w6.alloc (.cells #[.bool u.m, .slice u.d.p u.d.n u.d.c, .slice u.s.p u.s.n u.s.c, .slice u.f.p u.f.n u.f.c] 26)).cell? ⟨w.heap.size, 1, none⟩ = some (.slice v.d.p v.d.n v.d.c) := obj_cell B7 1
    have m2 : (w6.alloc (.cells #[.bool u.m, .slice u.d.p u.d.n u.d.c, .slice u.s.p u.s.n u.s.c, .slice u.f.p u.f.n u.f.c] 26)).cell? ⟨w.heap.size, 2, none⟩ = some (.slice v.s.p v.s.n v.s.c) := obj_cell B7 2
    have m3 : (w6.alloc (.cells #[.bool u.m, .slice u.d.p u.d.n u.d.c, .slice u.s.p u.s.n u.s.c, .slice u.f.p u.f.n u.f.c] 26)).cell? ⟨w.heap.size, 3, none⟩ = some (.slice v.f.p v.f.n v.f.c) := obj_cell B7 3
    have hlb := lt_of_block B7
    have HM0 := Lib.hid m0
    unfold dval at HSM ⊢
    clear F5 B5 R5 O6 f6 O7 R7 B7
    obtain ⟨y, er⟩ := Z
    simp only at HSM ⊢
    by_cases h0 : er = 0
    · have hb : (er != 0) = false := by simpa using h0
      have H0 := Lib.hid h0
      clear h0
      go_wp2_with (fail)
      refine HSM.mono ?_
      rintro e w8 ⟨bq, rfl, hbq, f8⟩
      have HBQ := Lib.hid hbq
      have F8 := F7.trans f8
      clear f8 hbq HSM m0 m1 m2 m3 HM0
      cases bq
      · go_wp2_with (fail)
        rw [HQ.out]
        refine ⟨noTx, 1500, rfl, .inr ⟨fun h => ?_, rfl, rfl⟩, F8⟩
        have h2 := h.2
        rw [← HZ.out] at h2
        have e : y = d := by injection h2
        have := HBQ.out
        first
          | exact this e
          | (have := this.2 e; cases this)
      · go_wp2_with (fail)
        rw [HQ.out]
        have e : y = d := by
          have := HBQ.out
          first
            | exact this.1 rfl
            | exact this.1 trivial
            | exact this
        exact ⟨s, 0, rfl, .inl ⟨⟨by first | exact HLD.out | simpa using HLD.out, by rw [← HZ.out, e, H0.out]⟩, HS.out, rfl⟩, F8⟩
    · have hb : (er != 0) = true := by simpa using h0
      have H0 := Lib.hid h0
      clear h0
      go_wp2_with (fail)
      rw [HQ.out]
      refine ⟨noTx, 1500, rfl, .inr ⟨fun h => ?_, rfl, rfl⟩, F7⟩
      have h2 := h.2
      rw [← HZ.out] at h2
      exact H0.out (by injection h2)
end Go.Proofs.YthaegncocdddfaaGreatDoor

/- Merged: Prn8. -/
import Derived.Test.YthaegncocdddfaaGreatDoorK20
import Derived.Test.YthaegncocdddfaaGreatDoorK35
/- The printer, walked: doc. -/
namespace Go.Proofs.YthaegncocdddfaaGreatDoor
set_option linter.unusedVariables false
set_option linter.unusedSimpArgs false
set_option linter.unusedVariables false
set_option linter.unusedSimpArgs false
open Go.RowKit Go.Lib Go.Tt Go.Shelf
/-- The printer, its row not in block X. -/
def PX (M X : Nat) (w : World) (pb : Nat) (l : List UInt8) : Prop := FB w 90 (fun k => Bt M w.heap.size k ∧ k ≠ X) pb l ∧ M ≤ pb ∧ pb ≠ X ∧ TabB M w
theorem PX.p {M X : Nat} {w : World} {pb : Nat} {l : List UInt8} (h : PX M X w pb l) : PP M w pb l := ⟨h.1.mono fun k _ hk => hk.1, h.2.1, h.2.2.2⟩
theorem PP.x {M : Nat} {w : World} {pb : Nat} {l : List UInt8} (h : PP M w pb l) (o : Obj) : PX M w.heap.size (w.alloc o) pb l := by
  have f : Frm No w (w.alloc o) := (Frm.refl No w).al _
  have hlt := h.lt
  exact ⟨(h.1.no f).mono fun k _ hk => ⟨⟨hk.1, by rw [World.size_alloc]; have := hk.2; omega⟩, by have := hk.2; omega⟩, h.2.1, by omega, h.2.2.no f⟩
theorem PX.no {M X : Nat} {w w' : World} {pb : Nat} {l : List UInt8} (h : PX M X w pb l) (f : Frm No w w') : PX M X w' pb l :=
  ⟨(h.1.no f).mono fun k _ hk => ⟨⟨hk.1.1, Nat.lt_of_lt_of_le hk.1.2 f.size⟩, hk.2⟩, h.2.1, h.2.2.1, h.2.2.2.no f⟩
theorem spS_cons (x : ByteArray) (xs : List ByteArray) : spS (x :: xs) = sp (byL x) ++ spS xs := by unfold spS; rw [List.flatMap_cons]
theorem spS_len : ∀ (ss : List ByteArray), ss.length ≤ (spS ss).length
  | [] => Nat.zero_le _
  | x :: xs => by
    have ih := spS_len xs
    have e2 : (sp (byL x)).length = (byL x).length + 1 := by unfold sp; rw [List.length_append]; rfl
    rw [spS_cons, List.length_append, e2, List.length_cons]
    omega
theorem padd3 {M X : Nat} {w : World} {pb : Nat} {l : List UInt8} (h : PX M X w pb l) (hX : X < w.heap.size) (ss : List ByteArray) {n : Nat} (hn : ss.length = n) (cs : Array Value) (hc : cs.toList = eStr.flat ss) (hlen : l.length + (spS ss).length ≤ 140737488355328) :
    Calls Tryz.prog 57 #[.pointer (some ⟨pb, 0, none⟩), .slice (some ⟨w.heap.size, 0, none⟩) n n] (w.alloc (.cells cs 9)) fun e w' => e = .returned (.tuple #[]) ∧ PX M X w' pb (l ++ spS ss) ∧ Frm (fun k => M ≤ k ∧ k ≠ X) w w' := by
  subst hn
  have hne : Frm No w (w.alloc (.cells cs 9)) := (Frm.refl No w).al _
  have B : FB (w.alloc (.cells cs 9)) 90 (fun k => Bt M w.heap.size k ∧ k ≠ X) pb l := h.1.no hne
  have hlt := h.1.lt
  have hM := h.2.1
  have hn9 : ss.length ≤ maxLen := by
    have := spS_len ss
    unfold maxLen
    omega
  have R : RdS (w.alloc (.cells cs 9)) eStr (.slice (some ⟨w.heap.size, 0, none⟩) ss.length ss.length) ss := by
    refine ⟨_, _, rfl, Nat.le_refl _, hn9, fun h => (by cases h), fun _ => ⟨_, _, rfl, fun m u hm => ?_⟩⟩
    rw [obj_cell (heap_alloc_new w _), Nat.zero_add, ← Array.getElem?_toList, hc]
    exact hm
  refine (padd_ok B R ?_ hlen ?_).mono ?_
  · intro g hg
    have hg' : g = w.heap.size := by
      cases hs : ss.length with
      | zero => rw [hs] at hg; cases hg
      | succ m => rw [hs] at hg; exact (Option.some.inj hg).symm
    rw [hg']
    exact ⟨by omega, fun hb => by have := hb.1.2; omega⟩
  · intro k hk
    have := hk.1.2
    rw [World.size_alloc]
    omega
  · rintro e w' ⟨he, b, f⟩
    have sz := f.size
    rw [World.size_alloc] at sz
    have F' : Frm (fun k => M ≤ k ∧ k ≠ X) w w' := (hne.mono (G := fun k => M ≤ k ∧ k ≠ X) fun _ _ h => h.elim).then f fun k _ hk => by
      rcases hk with hk | hk
      · rw [hk]; exact ⟨hM, h.2.2.1⟩
      · exact ⟨hk.1.1, hk.2⟩
    refine ⟨he, ⟨b.mono fun k hk hx => ?_, hM, h.2.2.1, h.2.2.2.frm (F'.mono fun k _ hk => hk.1)⟩, F'⟩
    rcases hx with hx | hx
    · exact ⟨⟨hx.1.1, hk⟩, hx.2⟩
    · have h1 := hx.1
      rw [World.size_alloc] at h1
      exact ⟨⟨by omega, hk⟩, by omega⟩
def DmI (d : Dm) : Prop := SsI d.sels ∧ ∀ f ∈ d.frags, SsI f.sels
theorem prD_sp (x : Dc) : prD x = spS [⟨#[36]⟩, x.name, ⟨#[58]⟩, ⟨(kindW x.kind).toArray⟩] := by simp [prD, spS, sp, byL]
set_option maxHeartbeats 16000000 in
set_option maxRecDepth 100000 in
theorem pdoc_ok {M : Nat} {w : World} {pb db : Nat} {v : DocC} {d : Dm} (h : PP M w pb []) (hb : w.heap[db]? = some (.cells #[.bool v.m, .slice v.d.p v.d.n v.d.c, .slice v.s.p v.s.n v.s.c, .slice v.f.p v.f.n v.f.c] 26 (0, 0))) (hdb : db < M) (hr : RdDoc w (Lo M) v d) (hI : DmI d) (hlen : (prDoc d).length ≤ 140737488355328) :
    Calls Tryz.prog 27 #[.pointer (some ⟨pb, 0, none⟩), .pointer (some ⟨db, 0, none⟩)] w fun e w' => e = .returned (.tuple #[]) ∧ PP M w' pb (prDoc d) ∧ Frm (Ge M) w w' := by
  obtain ⟨vm, ⟨dp, dn, dc⟩, ⟨sp1, sn, sc⟩, ⟨fp, fn, fc⟩⟩ := v
  obtain ⟨h0, hD, hS, rs, hF, hFs⟩ := hr
  simp only at h0 hD hS hF hb
  have hbw := lt_of_block hb
  have e0 : w.cell? ⟨db, 0, none⟩ = some (.bool vm) := obj_cell hb 0
  have e1 : w.cell? ⟨db, 1, none⟩ = some (.slice dp dn dc) := obj_cell hb 1
  have e2 : w.cell? ⟨db, 2, none⟩ = some (.slice sp1 sn sc) := obj_cell hb 2
  have e3 : w.cell? ⟨db, 3, none⟩ = some (.slice fp fn fc) := obj_cell hb 3
  have hl := hFs.len
  have n1 : dn = d.decls.length := hD.1.facts.1
  have n3 : fn = d.frags.length := hF.1.facts.1.trans hl
  rw [h0] at e0
  rw [n1] at e1 hD
  have hFl : fn = rs.length := hF.1.facts.1
  rw [hFl] at hF
  rw [n3] at e3
  have hal : d.decls.length ≤ 9223372036854775807 := by
    have h1 := hD.1.facts
    unfold maxLen at h1
    omega
  have hal3 : d.frags.length ≤ 9223372036854775807 := by
    have h1 := hF.1.facts
    unfold maxLen at h1
    omega
  obtain ⟨mu, ds, ss, fs⟩ := d
  simp only at *
  obtain ⟨A, qA⟩ : ∃ A, A = (if mu then sp (byL tMut) else sp (byL tQuery)) := ⟨_, rfl⟩
  have e : prDoc ⟨mu, ds, ss, fs⟩ = A ++ pBr prD ds ds.length ++ prSet ss ++ fs.flatMap prF := by
    unfold prDoc
    rw [prDs_pBr, qA]
  rw [e] at hlen ⊢
  simp only [List.length_append] at hlen
  have HE := Lib.hid hlen
  have HA := Lib.hid qA
  have HP := Lib.hid h
  have HD := Lib.hid hD
  have HF := Lib.hid hF
  have HFs := Lib.hid hFs
  have HS := Lib.hid hS
  have HI := Lib.hid hI
  have HLN := Lib.hid hl
  obtain ⟨R, hR⟩ : ∃ R : Ending → World → Prop, R = fun e w' => e = .returned (.tuple #[]) ∧ PP M w' pb (A ++ pBr prD ds ds.length ++ prSet ss ++ fs.flatMap prF) ∧ Frm (Ge M) w w' := ⟨_, rfl⟩
  rw [← hR]
  have HQ := Lib.hid hR
  clear hR e hlen qA h hD hF hFs hS hI hl hb h0 n1 n3 hFl
  go_enter Tryz.func27, Tryz.ntmps27
  go_upto_if 11 with fail
  go_cut [] (fun wx => PP M wx pb A ∧ Frm (Ge M) w wx)
  case first =>
    cases mu
    · have eA : A = spS [tQuery] := by rw [HA.out]; rfl
      have HAD := padd2 (n := 1) HP.out [tQuery] rfl #[.string tQuery] rfl (by rw [← eA]; have := HE.out; show 0 + _ ≤ _; omega)
      rw [← eA] at HAD
      unfold tQuery at HAD
      clear eA
      go_wp2_with (fail)
      refine HAD.mono ?_
      rintro e w1 ⟨rfl, P1, F1⟩
      go_wp2_with (fail)
      go_meet
      exact ⟨P1, F1⟩
    · have eA : A = spS [tMut] := by rw [HA.out]; rfl
      have HAD := padd2 (n := 1) HP.out [tMut] rfl #[.string tMut] rfl (by rw [← eA]; have := HE.out; show 0 + _ ≤ _; omega)
      rw [← eA] at HAD
      unfold tMut at HAD
      clear eA
      go_wp2_with (fail)
      refine HAD.mono ?_
      rintro e w1 ⟨rfl, P1, F1⟩
      go_wp2_with (fail)
      go_meet
      exact ⟨P1, F1⟩
  case rest =>
    obtain ⟨P1, F1⟩ := hcut
    have d1 := frm_lo F1 hdb hbw e1
    go_wp2_with (fail)
    go_loopg [23] (ds.length + 1) (fun g iv wr => ∃ i : Nat, iv = .int .i64 i ∧ g = ds.length - i + 1 ∧ i ≤ ds.length ∧ PP M wr pb (A ++ pBr prD ds i) ∧ Frm (Ge M) w wr)
    case atStart => exact ⟨0, rfl, rfl, Nat.zero_le _, by rw [pBr_zero, List.append_nil]; exact P1, F1⟩
    case round =>
      clear P1 F1 d1
      obtain ⟨i, rfl, hg, hi, Pr, Fr⟩ := hrel
      have HG := Lib.hid hg
      clear hg
      by_cases hlt : i < ds.length
      · have hst := pBr_step (f := prD) hlt
        have hle := pBr_le (f := prD) (l := ds) (i + 1) hlt
        obtain ⟨ab, ao, hao, hab, hcell⟩ := HD.out.1.at hlt
        have habM : ab < M := HD.out.2 ab (by
          rw [hao]
          obtain ⟨m, hm⟩ : ∃ m, ds.length = m + 1 := ⟨ds.length - 1, by omega⟩
          rw [hm]; rfl)
        obtain ⟨ax, hax⟩ : ∃ ax, ax = ds[i] := ⟨_, rfl⟩
        rw [← hax] at hcell hst
        subst hao
        have d1 := frm_lo Fr hdb hbw e1
        have k0 : wr.cell? ⟨ab, ao + i * 2, none⟩ = some (.string ax.name) := frm_lo Fr habM hab (hcell 0 _ rfl)
        have k1 : wr.cell? ⟨ab, ao + i * 2 + 1, none⟩ = some (.int .i64 ax.kind) := frm_lo Fr habM hab (hcell 1 _ rfl)
        obtain ⟨X, qX⟩ : ∃ X, X = (if i = 0 then [40, 32] else ([] : List UInt8)) := ⟨_, rfl⟩
        obtain ⟨Y, qY⟩ : ∃ Y, Y = (if i + 1 = ds.length then [41, 32] else ([] : List UInt8)) := ⟨_, rfl⟩
        obtain ⟨T, qT⟩ : ∃ T, T = A ++ pBr prD ds i := ⟨_, rfl⟩
        rw [← qX, ← qY] at hst
        have bnd : T.length + X.length + (prD ax).length + Y.length ≤ 140737488355328 := by
          have h1 := HE.out
          rw [hst] at hle
          simp only [List.length_append] at hle
          rw [qT, List.length_append]
          omega
        have HST := Lib.hid (show A ++ pBr prD ds (i + 1) = T ++ X ++ prD ax ++ Y from by rw [hst, qT]; simp only [List.append_assoc])
        rw [← qT] at Pr
        have HX := Lib.hid qX
        have HY := Lib.hid qY
        have HPr := Lib.hid Pr
        have HB1 := Lib.hid bnd
        have HC := Lib.hid hcell
        have HLT := Lib.hid hlt
        clear hst hle qX qY qT Pr bnd hcell hax
        go_upto_if 29 with fail
        have X0 := HPr.out.x (.cells #[.string ax.name, .int .i64 ax.kind] 62)
        have B0 := heap_alloc_new wr (.cells #[.string ax.name, .int .i64 ax.kind] 62)
        have hx0 : wr.heap.size < (wr.alloc (.cells #[.string ax.name, .int .i64 ax.kind] 62)).heap.size := by rw [World.size_alloc]; omega
        have F0 : Frm (Ge M) w (wr.alloc (.cells #[.string ax.name, .int .i64 ax.kind] 62)) := Fr.al _
        clear k0 k1 d1 Fr
        generalize wr.alloc (.cells #[.string ax.name, .int .i64 ax.kind] 62) = W0 at X0 B0 hx0 F0 ⊢
        generalize wr.heap.size = xb at X0 B0 hx0 ⊢
        have HX0 := Lib.hid X0
        have HB0 := Lib.hid B0
        clear X0 B0
        go_cut [] (fun wx => PX M xb wx pb (T ++ X) ∧ wx.heap[xb]? = some (.cells #[.string ax.name, .int .i64 ax.kind] 62 (0, 0)) ∧ Frm (Ge M) w wx)
        case first =>
          by_cases hi0 : i = 0
          · have q1 : ((i : Int) == 0) = true := by simpa using hi0
            rw [q1]
            have eX : X = spS [⟨#[40]⟩] := by rw [HX.out, if_pos hi0]; rfl
            have HAD := padd3 (n := 1) HX0.out hx0 [⟨#[40]⟩] rfl #[.string ⟨#[40]⟩] rfl (by rw [← eX]; have := HB1.out; omega)
            rw [← eX] at HAD
            clear q1 hi0 eX
            go_wp2_with (fail)
            refine HAD.mono ?_
            rintro e w4 ⟨rfl, P4, F4⟩
            go_wp2_with (fail)
            go_meet
            exact ⟨P4, F4.obj HB0.out (fun h => h.2 rfl), F0.trans (F4.mono fun k _ hk => hk.1)⟩
          · have q1 : ((i : Int) == 0) = false := by simpa using hi0
            rw [q1]
            have eX : X = [] := by rw [HX.out, if_neg hi0]
            have HEX := Lib.hid eX
            clear q1 hi0 eX
            go_wp2_with (fail)
            go_meet
            rw [HEX.out, List.append_nil]
            exact ⟨HX0.out, HB0.out, F0⟩
        case rest =>
          obtain ⟨P4, B4, F4⟩ := hcut
          clear F0 hx0
          have x0 : wc.cell? ⟨xb, 0, none⟩ = some (.string ax.name) := obj_cell B4 0
          have x1 : wc.cell? ⟨xb, 1, none⟩ = some (.int .i64 ax.kind) := obj_cell B4 1
          have hx4 := lt_of_block B4
          obtain ⟨ki, kw, hki, hkw, hk2⟩ : ∃ (ki : Nat) (kw : ByteArray), max 0 (min ax.kind 2) = (ki : Int) ∧ kw = ⟨(kindW ax.kind).toArray⟩ ∧ (#[Value.string ⟨#[73, 110, 116]⟩, .string ⟨#[84, 101, 120, 116]⟩, .string ⟨#[66, 111, 111, 108]⟩] : Array Value)[ki]? = some (.string kw) := by
            by_cases q0 : ax.kind ≤ 0
            · exact ⟨0, _, by omega, rfl, by unfold kindW; rw [if_pos q0]; rfl⟩
            · by_cases q1 : ax.kind = 1
              · exact ⟨1, _, by omega, rfl, by unfold kindW; rw [if_neg q0, if_pos q1]; rfl⟩
              · exact ⟨2, _, by omega, rfl, by unfold kindW; rw [if_neg q0, if_neg q1]; rfl⟩
          have HKI := Lib.hid hki
          have HKW := Lib.hid hkw
          have HK2 := Lib.hid hk2
          clear hki hkw hk2
          go_upto_region 9 with fail
          have n0 : (wc.alloc (.cells #[.string ⟨#[73, 110, 116]⟩, .string ⟨#[84, 101, 120, 116]⟩, .string ⟨#[66, 111, 111, 108]⟩] 9)).cell? ⟨wc.heap.size, ki, none⟩ = some (.string kw) := (obj_cell (heap_alloc_new wc _) ki).trans HK2.out
          have fn : Frm No wc (wc.alloc (.cells #[.string ⟨#[73, 110, 116]⟩, .string ⟨#[84, 101, 120, 116]⟩, .string ⟨#[66, 111, 111, 108]⟩] 9)) := (Frm.refl No wc).al _
          have hk3 : ki < 3 := (Array.getElem?_eq_some_iff.1 HK2.out).1
          have P5 := P4.no fn
          have y0 := (fn.cell (p := ⟨xb, 0, none⟩) hx4 id).trans x0
          have y1 := (fn.cell (p := ⟨xb, 1, none⟩) hx4 id).trans x1
          have F5 := F4.trans (fn.mono fun _ _ h => h.elim)
          have hx5 : xb < (wc.alloc (.cells #[.string ⟨#[73, 110, 116]⟩, .string ⟨#[84, 101, 120, 116]⟩, .string ⟨#[66, 111, 111, 108]⟩] 9)).heap.size := Nat.lt_of_lt_of_le hx4 fn.size
          clear P4 B4 F4 x0 x1 hx4 fn HK2
          generalize wc.alloc (.cells #[.string ⟨#[73, 110, 116]⟩, .string ⟨#[84, 101, 120, 116]⟩, .string ⟨#[66, 111, 111, 108]⟩] 9) = wn at n0 P5 y0 y1 F5 hx5 ⊢
          generalize wc.heap.size = nb at n0 ⊢
          refine wp_region_plan [([0, 1, 2, 3, 4, 5, 6, 7, 8], [5, 2]), ([9], [2]), ([10], [2]), ([11, 12, 13, 14], [])] 105 (by kernel_rfl) (by kernel_rfl) (by simp) ?_
          intro N hN
          simp only [wpSegs, List.map_cons, List.map_nil, List.getD_cons_zero, List.getD_cons_succ]
          go_wp2_with (fail)
          refine ⟨again_cons (again_of rfl rfl ?_) (again_cons (again_of rfl rfl ?_) again_nil), ?_⟩
          · go_simp
          · go_simp
          go_wp2_with (fail)
          refine ⟨again_cons (again_of rfl rfl ?_) again_nil, ?_⟩
          · go_simp
          have hki := HKI.out
          have P6 := P5.no (Frm.drew No wn)
          have eW : spS [⟨#[36]⟩, ax.name, ⟨#[58]⟩, kw] = prD ax := by rw [prD_sp, HKW.out]
          have HAD := padd3 (n := 4) P6 hx5 [⟨#[36]⟩, ax.name, ⟨#[58]⟩, kw] rfl #[.string ⟨#[36]⟩, .string ax.name, .string ⟨#[58]⟩, .string kw] rfl (by rw [eW, List.length_append]; have := HB1.out; omega)
          rw [eW] at HAD
          clear eW P5 P6
          go_wp2_with (fail)
          refine ⟨again_cons (again_of rfl rfl ?_) again_nil, ?_⟩
          · go_simp
          clear hki
          go_wp2_with (fail)
          refine HAD.mono ?_
          rintro e w6 ⟨rfl, P6, F6⟩
          clear HAD
          have G6 : Frm (Ge M) w w6 := (F5.trans (Frm.drew _ _)).trans (F6.mono fun k _ hk => hk.1)
          have d6 := frm_lo G6 hdb hbw e1
          have P7 := P6.p
          have lY : (T ++ X ++ prD ax).length + Y.length ≤ 140737488355328 := by
            have := HB1.out
            simp only [List.length_append]
            omega
          clear P6 F5 F6 y0 y1 n0 hx5
          by_cases hil : i + 1 = ds.length
          · have eY : Y = spS [⟨#[41]⟩] := by rw [HY.out, if_pos hil]; rfl
            have HAD := padd2 (n := 1) P7 [⟨#[41]⟩] rfl #[.string ⟨#[41]⟩] rfl (by rw [← eY]; exact lY)
            rw [← eY] at HAD
            have hil2 : ((i : Int) == (ds.length : Int) - 1) = true := by rw [beq_iff_eq]; omega
            clear eY lY hil P7
            go_wp2_with (fail)
            refine HAD.mono ?_
            rintro e w7 ⟨rfl, P7, F7⟩
            go_wp2_with (fail)
            go_roundg (ds.length - (i + 1) + 1)
            case measure => have := HG.out; have := HLT.out; omega
            case rel => exact ⟨i + 1, by go_num, rfl, HLT.out, by rw [HST.out]; exact P7, G6.trans F7⟩
          · have eY : Y = [] := by rw [HY.out, if_neg hil]
            have HEY := Lib.hid eY
            have hil2 : ((i : Int) == (ds.length : Int) - 1) = false := by rw [beq_eq_false_iff_ne]; omega
            clear eY lY hil
            go_wp2_with (fail)
            go_roundg (ds.length - (i + 1) + 1)
            case measure => have := HG.out; have := HLT.out; omega
            case rel => exact ⟨i + 1, by go_num, rfl, HLT.out, by rw [HST.out, HEY.out, List.append_nil]; exact P7, G6⟩
      · obtain rfl : i = ds.length := by omega
        clear hlt HG hi
        have d2 := frm_lo Fr hdb hbw e2
        have HSC := pset_all (nSs ss) Pr (HS.out.frm Fr fun k _ hk hg => by unfold Lo at hk; unfold Ge at hg; omega) (Nat.le_refl _) HI.out.1 (by rw [List.length_append]; have := HE.out; omega)
        go_wp2_with (fail)
        refine HSC.mono ?_
        rintro e w6 ⟨rfl, P6, F6⟩
        clear HSC
        have G6 := Fr.trans F6
        have d3 := frm_lo G6 hdb hbw e3
        clear F6 d2 e1 e2
        go_wp2_with (fail)
        go_loopg [72] (fs.length + 1) (fun g iv wr => ∃ i : Nat, iv = .int .i64 i ∧ g = fs.length - i + 1 ∧ i ≤ fs.length ∧ PP M wr pb (A ++ pBr prD ds ds.length ++ prSet ss ++ (fs.take i).flatMap prF) ∧ Frm (Ge M) w wr)
        case atStart => exact ⟨0, rfl, rfl, Nat.zero_le _, by rw [List.take_zero]; show PP M w6 pb (_ ++ []); rw [List.append_nil]; exact P6, G6⟩
        case round =>
          clear P6 G6 d3
          obtain ⟨i, rfl, hg, hi, Pr, Fr⟩ := hrel
          have HG := Lib.hid hg
          clear hg
          have d3 := frm_lo Fr hdb hbw e3
          by_cases hlt : i < fs.length
          · have hlt' : i < rs.length := by have := HLN.out; omega
            have hst := fm_take (f := prF) hlt
            have hle := fm_le (f := prF) (l := fs) (i + 1)
            obtain ⟨ab, ao, hao, hab, hcell⟩ := HF.out.1.at hlt'
            have habM : ab < M := HF.out.2 ab (by
              rw [hao]
              obtain ⟨m, hm⟩ : ∃ m, rs.length = m + 1 := ⟨rs.length - 1, by omega⟩
              rw [hm]; rfl)
            obtain ⟨⟨q1, q2⟩, hSr⟩ := HFs.out.at i hlt hlt'
            obtain ⟨fx, hfx⟩ : ∃ fx, fx = fs[i] := ⟨_, rfl⟩
            have iS : SsI fx.sels := HI.out.2 fx (by rw [hfx]; exact List.getElem_mem hlt)
            rw [← hfx] at hst q1 q2 hSr
            obtain ⟨rx, hrx⟩ : ∃ rx, rx = rs[i] := ⟨_, rfl⟩
            rw [← hrx] at q1 q2 hSr hcell
            have k0 : ∀ wx, Frm (Ge M) w wx → wx.cell? ⟨ab, ao + i * 3, none⟩ = some (.string fx.name) := fun wx f => frm_lo f habM hab ((hcell 0 _ rfl).trans (by rw [q1]))
            have k1 : ∀ wx, Frm (Ge M) w wx → wx.cell? ⟨ab, ao + i * 3 + 1, none⟩ = some (.string fx.on) := fun wx f => frm_lo f habM hab ((hcell 1 _ rfl).trans (by rw [q2]))
            have k2 : ∀ wx, Frm (Ge M) w wx → wx.cell? ⟨ab, ao + i * 3 + 2, none⟩ = some (.slice rx.s.p rx.s.n rx.s.c) := fun wx f => frm_lo f habM hab (hcell 2 _ rfl)
            have HK2 := Lib.hid k2
            obtain ⟨T, qT⟩ : ∃ T, T = A ++ pBr prD ds ds.length ++ prSet ss ++ (fs.take i).flatMap prF := ⟨_, rfl⟩
            have eF : prF fx = spS [tFrag, fx.name, tOn, fx.on] ++ prSet fx.sels := by simp [prF, spS, sp, byL, tOn]
            rw [eF] at hst
            have bnd : T.length + (spS [tFrag, fx.name, tOn, fx.on]).length + (prSet fx.sels).length ≤ 140737488355328 := by
              have h1 := HE.out
              rw [hst] at hle
              simp only [List.length_append] at hle
              rw [qT]
              simp only [List.length_append]
              omega
            have HST := Lib.hid (show A ++ pBr prD ds ds.length ++ prSet ss ++ (fs.take (i + 1)).flatMap prF = T ++ spS [tFrag, fx.name, tOn, fx.on] ++ prSet fx.sels from by rw [hst, qT]; simp only [List.append_assoc])
            rw [← qT] at Pr
            have HB1 := Lib.hid bnd
            have c0 := k0 wr Fr
            have c1 := k1 wr Fr
            have HSr := Lib.hid hSr
            have HLT := Lib.hid hlt
            have HAO := Lib.hid hao
            rw [hao] at d3
            have P5 := Pr.no (Frm.drew No wr)
            have HAD := padd2 (n := 4) P5 [tFrag, fx.name, tOn, fx.on] rfl #[.string tFrag, .string fx.name, .string tOn, .string fx.on] rfl (by omega)
            have eFr : tFrag = ⟨#[102, 114, 97, 103, 109, 101, 110, 116]⟩ := rfl
            have eOn : tOn = ⟨#[111, 110]⟩ := rfl
            rw [eFr, eOn] at HAD
            clear hst hle qT Pr bnd hcell hao k0 k1 k2 q1 q2 hSr hfx hrx eF P5 eFr eOn hlt'
            go_wp2_with (fail)
            refine wp_region_plan [([0, 1, 2, 3, 4, 5, 6, 7, 8, 9, 10, 11, 12, 13, 14, 15, 16, 17, 18], [])] 105 (by kernel_rfl) (by kernel_rfl) (by simp) ?_
            intro N hN
            simp only [wpSegs, List.map_cons, List.map_nil, List.getD_cons_zero, List.getD_cons_succ]
            go_wp2_with (fail)
            refine HAD.mono ?_
            rintro e w6 ⟨rfl, P6, F6⟩
            clear HAD c0 c1
            have G6 : Frm (Ge M) w w6 := (Fr.trans (Frm.drew _ _)).trans F6
            have d6 := frm_lo G6 hdb hbw e3
            rw [HAO.out] at d6
            have c2 := HK2.out w6 G6
            have HSC := pset_all (nSs fx.sels) P6 (HSr.out.frm G6 fun k _ hk hg => by unfold Lo at hk; unfold Ge at hg; omega) (Nat.le_refl _) iS (by rw [List.length_append]; exact HB1.out)
            clear F6 P6 d3
            go_wp2_with (fail)
            refine HSC.mono ?_
            rintro e w7 ⟨rfl, P7, F7⟩
            go_wp2_with (fail)
            go_roundg (fs.length - (i + 1) + 1)
            case measure => have := HG.out; have := HLT.out; omega
            case rel => exact ⟨i + 1, by go_num, rfl, HLT.out, by rw [HST.out]; exact P7, G6.trans F7⟩
          · obtain rfl : i = fs.length := by omega
            rw [List.take_length] at Pr
            clear hlt HG hi d3
            go_wp2_with (fail)
            go_end0
            rw [HQ.out]
            exact ⟨rfl, Pr, Fr⟩
end Go.Proofs.YthaegncocdddfaaGreatDoor

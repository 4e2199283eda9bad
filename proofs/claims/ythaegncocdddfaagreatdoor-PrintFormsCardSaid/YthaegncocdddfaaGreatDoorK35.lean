/- Merged: Prn6 Prn7. -/
import Derived.Deep.DeepCutAuto
import Derived.Test.YthaegncocdddfaaGreatDoorK24
/- The printer, walked: sel. -/
namespace Go.Proofs.YthaegncocdddfaaGreatDoor
set_option linter.unusedVariables false
set_option linter.unusedSimpArgs false
set_option linter.unusedVariables false
set_option linter.unusedSimpArgs false
open Go.RowKit Go.Lib Go.Tt Go.Shelf
theorem frm_lo {M : Nat} {w wr : World} (f : Frm (Ge M) w wr) {b o : Nat} {v : Value} (hb : b < M) (hw : b < w.heap.size) (h : w.cell? ⟨b, o, none⟩ = some v) : wr.cell? ⟨b, o, none⟩ = some v :=
  (f.cell (p := ⟨b, o, none⟩) hw (fun hk => absurd (show M ≤ b from hk) (by omega))).trans h
theorem emp_eq (s : ByteArray) : s.toList.isEmpty = eqB s noTx := by
  rw [ByteArray.toList_eq]
  unfold eqB noTx
  cases s.data.toList <;> rfl
def PSetC (n : Nat) : Prop := ∀ {M : Nat} {w : World} {pb : Nat} {l : List UInt8} {v : Value} {ss : List Sl}, PP M w pb l → RdSs w (Lo M) v ss → nSs ss ≤ n → SsI ss → l.length + (prSet ss).length ≤ 140737488355328 →
  Calls Tryz.prog 58 #[.pointer (some ⟨pb, 0, none⟩), v] w fun e w' => e = .returned (.tuple #[]) ∧ PP M w' pb (l ++ prSet ss) ∧ Frm (Ge M) w w'
def PSelC (n : Nat) : Prop := ∀ {M : Nat} {w : World} {pb : Nat} {l : List UInt8} {b o : Nat} {r : SelC} {s : Sl}, PP M w pb l → b < M → b < w.heap.size → (∀ j u, r.l[j]? = some u → w.cell? ⟨b, o + j, none⟩ = some u) → RdSel w (Lo M) r s → nS s ≤ n → SlI s → l.length + (prS s).length ≤ 140737488355328 →
  Calls Tryz.prog 77 #[.pointer (some ⟨pb, 0, none⟩), .pointer (some ⟨b, o, none⟩)] w fun e w' => e = .returned (.tuple #[]) ∧ PP M w' pb (l ++ prS s) ∧ Frm (Ge M) w w'
set_option maxHeartbeats 16000000 in
set_option maxRecDepth 100000 in
theorem psel_ok {n : Nat} (hset : PSetC n) : PSelC (n + 1) := by
  intro M w pb l b o r s h hb hbw hc hr hn hI hlen
  obtain ⟨sp_, al, nm, args, ifs, sels⟩ := s
  obtain ⟨r0, r1, r2, ra, ri, rs⟩ := r
  unfold RdSel at hr
  obtain ⟨⟨h0, h1, h2⟩, hA, hIf, rl, hS, hAll⟩ := hr
  simp only at h0 h1 h2 hA hIf hS
  subst h0 h1 h2
  have hSet : RdSs w (Lo M) (.slice rs.p rs.n rs.c) sels := ⟨rl, hS, hAll⟩
  have hrl := hAll.len
  have hsn : rs.n = rl.length := hS.1.facts.1
  rw [hrl] at hsn
  clear hrl hS hAll
  have hns : nSs sels ≤ n := by unfold nS at hn; omega
  unfold SlI at hI
  obtain ⟨iA, iI, iS⟩ := hI
  have e0 : w.cell? ⟨b, o, none⟩ = some (.bool r0) := hc 0 _ rfl
  have e1 : w.cell? ⟨b, o + 1, none⟩ = some (.string r1) := hc 1 _ rfl
  have e2 : w.cell? ⟨b, o + 2, none⟩ = some (.string r2) := hc 2 _ rfl
  have e3 : w.cell? ⟨b, o + 3, none⟩ = some (.slice ra.p ra.n ra.c) := hc 3 _ rfl
  have e4 : w.cell? ⟨b, o + 4, none⟩ = some (.slice ri.p ri.n ri.c) := hc 4 _ rfl
  have e5 : w.cell? ⟨b, o + 5, none⟩ = some (.slice rs.p rs.n rs.c) := hc 5 _ rfl
  have en3 : ra.n = args.length := hA.1.facts.1
  have en4 : ri.n = ifs.length := hIf.1.facts.1
  rw [en3] at e3 hA
  rw [en4] at e4 hIf
  obtain ⟨sn, hsn'⟩ : ∃ sn, sn = rs.n := ⟨_, rfl⟩
  rw [← hsn'] at e5 hSet hsn
  have HSN := Lib.hid hsn
  clear hc hn en3 en4 hsn' hsn
  -- the parts
  obtain ⟨A, qA⟩ : ∃ A, A = (if r0 then [46, 46, 46, 32] else ([] : List UInt8)) := ⟨_, rfl⟩
  obtain ⟨B, qB⟩ : ∃ B, B = (if eqB r1 noTx then [] else sp (byL r1) ++ [58, 32]) := ⟨_, rfl⟩
  obtain ⟨Z, qZ⟩ : ∃ Z, Z = (if sels.isEmpty then [] else 123 :: 32 :: (prSs sels ++ [125, 32])) := ⟨_, rfl⟩
  have qP : prS (.mk r0 r1 r2 args ifs sels) = A ++ B ++ sp (byL r2) ++ pBr prA args args.length ++ ifs.flatMap prI ++ Z := by
    unfold prS
    rw [prAs_pBr, qA, qB, qZ]
  rw [qP] at hlen ⊢
  simp only [List.length_append] at hlen
  have HA := Lib.hid qA
  have HB := Lib.hid qB
  have HZ := Lib.hid qZ
  clear qA qB qZ qP
  have HP := Lib.hid h
  have HE := Lib.hid hlen
  have HIA := Lib.hid iA
  have HII := Lib.hid iI
  have HRA := Lib.hid hA
  have HRI := Lib.hid hIf
  obtain ⟨R, hR⟩ : ∃ R : Ending → World → Prop, R = fun e w' => e = .returned (.tuple #[]) ∧ PP M w' pb (l ++ (A ++ B ++ sp (byL r2) ++ pBr prA args args.length ++ ifs.flatMap prI ++ Z)) ∧ Frm (Ge M) w w' := ⟨_, rfl⟩
  rw [← hR]
  have HQ := Lib.hid hR
  clear hR h hlen iA iI hA hIf
  go_enter Tryz.func77, Tryz.ntmps77
  go_upto_if 10 with fail
  go_cut [] (fun wx => PP M wx pb (l ++ A) ∧ Frm (Ge M) w wx)
  case first =>
    cases r0
    · go_wp2_with (fail)
      go_meet
      rw [show A = [] from by rw [HA.out]; rfl, List.append_nil]
      exact ⟨HP.out, Frm.refl _ _⟩
    · have eA : A = spS [⟨#[46, 46, 46]⟩] := by rw [HA.out]; rfl
      have HAD := padd2 (n := 1) HP.out [⟨#[46, 46, 46]⟩] rfl #[.string ⟨#[46, 46, 46]⟩] rfl (by rw [← eA]; have := HE.out; omega)
      have HEA := Lib.hid eA
      clear eA
      go_wp2_with (fail)
      refine HAD.mono ?_
      rintro e w1 ⟨rfl, P1, F1⟩
      go_wp2_with (fail)
      go_meet
      rw [HEA.out]
      exact ⟨P1, F1⟩
  case rest =>
    obtain ⟨P1, F1⟩ := hcut
    have d1 := frm_lo F1 hb hbw e1
    clear e0
    go_upto_if 18 with fail
    go_cut [] (fun wx => PP M wx pb (l ++ A ++ B) ∧ Frm (Ge M) w wx)
    case first =>
      have hb1 := emp_eq r1
      cases hal : eqB r1 noTx
      · rw [hal] at hb1
        rw [hb1]
        clear hb1
        have eB : B = spS [r1, ⟨#[58]⟩] := by rw [HB.out, hal]; simp [spS, sp, byL]
        have HAD := padd2 (n := 2) P1 [r1, ⟨#[58]⟩] rfl #[.string r1, .string ⟨#[58]⟩] rfl (by rw [← eB, List.length_append]; have := HE.out; omega)
        rw [← eB] at HAD
        clear eB
        go_wp2_with (fail)
        refine HAD.mono ?_
        rintro e w2 ⟨rfl, P2, F2⟩
        go_wp2_with (fail)
        go_meet
        exact ⟨P2, F1.trans F2⟩
      · rw [hal] at hb1
        rw [hb1]
        clear hb1
        go_wp2_with (fail)
        go_meet
        rw [show B = [] from by rw [HB.out, hal]; rfl, List.append_nil]
        exact ⟨P1, F1⟩
    case rest =>
      clear P1 F1 d1
      obtain ⟨P2, F2⟩ := hcut
      have d2 := frm_lo F2 hb hbw e2
      have HAD := padd2 (n := 1) P2 [r2] rfl #[.string r2] rfl (by rw [spS_one, List.length_append, List.length_append]; have := HE.out; omega)
      rw [spS_one] at HAD
      go_wp2_with (fail)
      refine HAD.mono ?_
      rintro e w3 ⟨rfl, P3, F3⟩
      have G3 := F2.trans F3
      have d3 := frm_lo G3 hb hbw e3
      obtain ⟨L3, hL3⟩ : ∃ L3, L3 = l ++ A ++ B ++ sp (byL r2) := ⟨_, rfl⟩
      rw [← hL3] at P3
      have lL3 : L3.length = l.length + A.length + B.length + (sp (byL r2)).length := by rw [hL3]; simp only [List.length_append]
      have HL3 := Lib.hid hL3
      have HLL := Lib.hid lL3
      clear HAD P2 F2 F3 d2 hL3 lL3 e1 e2
      go_wp2_with (fail)
      go_loopg [38] (args.length + 1) (fun g iv wr => ∃ i : Nat, iv = .int .i64 i ∧ g = args.length - i + 1 ∧ i ≤ args.length ∧ PP M wr pb (L3 ++ pBr prA args i) ∧ Frm (Ge M) w wr)
      case atStart => exact ⟨0, rfl, rfl, Nat.zero_le _, by rw [pBr_zero, List.append_nil]; exact P3, G3⟩
      case round =>
        clear P3 G3 d3
        obtain ⟨i, rfl, hg, hi, Pr, Fr⟩ := hrel
        have HG := Lib.hid hg
        clear hg
        have d3 := frm_lo Fr hb hbw e3
        by_cases hlt : i < args.length
        · have hst := pBr_step (f := prA) hlt
          have hle := pBr_le (f := prA) (l := args) (i + 1) hlt
          obtain ⟨ab, ao, hao, hab, hcell⟩ := HRA.out.1.at hlt
          obtain ⟨ax, hax⟩ : ∃ ax, ax = args[i] := ⟨_, rfl⟩
          rw [← hax] at hcell hst
          have hmem : ax ∈ args := by rw [hax]; exact List.getElem_mem hlt
          have HMEM := Lib.hid hmem
          clear hax hmem
          have habM : ab < M := HRA.out.2 ab (by
            rw [hao]
            obtain ⟨m, hm⟩ : ∃ m, args.length = m + 1 := ⟨args.length - 1, by omega⟩
            rw [hm]; rfl)
          obtain ⟨X, qX⟩ : ∃ X, X = (if i = 0 then [40, 32] else ([] : List UInt8)) := ⟨_, rfl⟩
          obtain ⟨Y, qY⟩ : ∃ Y, Y = (if i + 1 = args.length then [41, 32] else ([] : List UInt8)) := ⟨_, rfl⟩
          obtain ⟨T, qT⟩ : ∃ T, T = L3 ++ pBr prA args i := ⟨_, rfl⟩
          rw [← qX, ← qY] at hst
          have bnd : T.length + X.length + (prA ax).length + Y.length ≤ 140737488355328 := by
            have h1 := HE.out
            have h2 := HLL.out
            rw [hst] at hle
            simp only [List.length_append] at hle
            rw [qT, List.length_append]
            omega
          have HST := Lib.hid (show L3 ++ pBr prA args (i + 1) = T ++ X ++ prA ax ++ Y from by rw [hst, qT]; simp only [List.append_assoc])
          rw [← qT] at Pr
          have HX := Lib.hid qX
          have HY := Lib.hid qY
          have HPr := Lib.hid Pr
          have hV : ∀ wx, Frm (Ge M) w wx → VlAt wx M ab (ao + i * 4 + 1) ax.val := fun wx f =>
            ⟨frm_lo f habM hab (hcell 1 _ rfl), frm_lo f habM hab (hcell 2 _ rfl), frm_lo f habM hab (hcell 3 _ rfl), habM, Nat.lt_of_lt_of_le hab f.size⟩
          have HV := Lib.hid hV
          have hN : ∀ wx, Frm (Ge M) w wx → wx.cell? ⟨ab, ao + i * 4, none⟩ = some (.string ax.name) := fun wx f => frm_lo f habM hab (hcell 0 _ rfl)
          have HN := Lib.hid hN
          have HB1 := Lib.hid bnd
          rw [hao] at d3
          have HAO := Lib.hid hao
          have HLT := Lib.hid hlt
          have hal : args.length ≤ 9223372036854775807 := by
            obtain ⟨x, y, hxy⟩ := HRA.out.1.sh
            have h1 := HRA.out.1.facts
            unfold maxLen at h1
            omega
          have HC := Lib.hid hcell
          clear hao hst hle qX qY qT Pr hV hN bnd hcell
          go_upto_if 42 with fail
          go_cut [] (fun wx => PP M wx pb (T ++ X) ∧ Frm (Ge M) w wx)
          case first =>
            by_cases hi0 : i = 0
            · have q1 : ((i : Int) == 0) = true := by simpa using hi0
              have q2 : decide ((i : Int) = 0) = true := by simpa using hi0
              first | rw [q1] | rw [q2]
              have eX : X = spS [⟨#[40]⟩] := by rw [HX.out, if_pos hi0]; rfl
              have HAD := padd2 (n := 1) HPr.out [⟨#[40]⟩] rfl #[.string ⟨#[40]⟩] rfl (by rw [← eX]; have := HB1.out; omega)
              rw [← eX] at HAD
              clear q1 q2 hi0 eX
              go_wp2_with (fail)
              refine HAD.mono ?_
              rintro e w4 ⟨rfl, P4, F4⟩
              go_wp2_with (fail)
              go_meet
              exact ⟨P4, Fr.trans F4⟩
            · have q1 : ((i : Int) == 0) = false := by simpa using hi0
              have q2 : decide ((i : Int) = 0) = false := by simpa using hi0
              first | rw [q1] | rw [q2]
              have eX : X = [] := by rw [HX.out, if_neg hi0]
              clear q1 q2 hi0
              have HEX := Lib.hid eX
              clear eX
              go_wp2_with (fail)
              go_meet
              rw [HEX.out, List.append_nil]
              exact ⟨HPr.out, Fr⟩
          case rest =>
            clear Fr d3
            obtain ⟨P4, F4⟩ := hcut
            have d3 := frm_lo F4 hb hbw e3
            rw [HAO.out] at d3
            have nm := HN.out wc F4
            have hpa : prA ax = spS [ax.name, ⟨#[58]⟩] ++ prV ax.val := by simp [prA, spS, sp, byL]
            have HPA := Lib.hid hpa
            have hb3 : (T ++ X).length + (spS [ax.name, ⟨#[58]⟩]).length + (prV ax.val).length + Y.length ≤ 140737488355328 := by
              have := HB1.out
              rw [hpa, List.length_append] at this
              rw [List.length_append]
              omega
            have HB3 := Lib.hid hb3
            have HAD := padd2 (n := 2) P4 [ax.name, ⟨#[58]⟩] rfl #[.string ax.name, .string ⟨#[58]⟩] rfl (by omega)
            have HXP := Lib.hid P4
            clear hpa hb3 P4
            go_wp2_with (fail)
            refine HAD.mono ?_
            rintro e w5 ⟨rfl, P5, F5⟩
            clear HAD
            have G5 := F4.trans F5
            have d5 := frm_lo G5 hb hbw e3
            rw [HAO.out] at d5
            have HVC := pvalue_ok P5 (HV.out w5 G5) (HIA.out _ HMEM.out) (by rw [List.length_append]; have := HB3.out; omega)
            clear F5 d3 P5
            go_wp2_with (fail)
            refine HVC.mono ?_
            rintro e w6 ⟨rfl, P6, F6⟩
            clear HVC
            have G6 := G5.trans F6
            have d6 := frm_lo G6 hb hbw e3
            rw [HAO.out] at d6
            have E6 : T ++ X ++ spS [ax.name, ⟨#[58]⟩] ++ prV ax.val = T ++ X ++ prA ax := by rw [HPA.out]; simp only [List.append_assoc]
            rw [E6] at P6
            have lY : (T ++ X ++ prA ax).length + Y.length ≤ 140737488355328 := by
              have := HB1.out
              simp only [List.length_append]
              omega
            clear E6 d5 G5 F6
            by_cases hil : i + 1 = args.length
            · have eY : Y = spS [⟨#[41]⟩] := by rw [HY.out, if_pos hil]; rfl
              have HAD := padd2 (n := 1) P6 [⟨#[41]⟩] rfl #[.string ⟨#[41]⟩] rfl (by rw [← eY]; exact lY)
              rw [← eY] at HAD
              have hil2 : ((i : Int) == (args.length : Int) - 1) = true := by rw [beq_iff_eq]; omega
              clear eY lY hil P6
              go_wp2_with (fail)
              refine HAD.mono ?_
              rintro e w7 ⟨rfl, P7, F7⟩
              go_wp2_with (fail)
              go_roundg (args.length - (i + 1) + 1)
              case measure => have := HG.out; have := HLT.out; omega
              case rel => exact ⟨i + 1, by go_num, rfl, HLT.out, by rw [HST.out]; exact P7, G6.trans F7⟩
            · have eY : Y = [] := by rw [HY.out, if_neg hil]
              have HEY := Lib.hid eY
              have hil2 : ((i : Int) == (args.length : Int) - 1) = false := by rw [beq_eq_false_iff_ne]; omega
              clear eY lY hil
              go_wp2_with (fail)
              go_roundg (args.length - (i + 1) + 1)
              case measure => have := HG.out; have := HLT.out; omega
              case rel => exact ⟨i + 1, by go_num, rfl, HLT.out, by rw [HST.out, HEY.out, List.append_nil]; exact P6, G6⟩
        · obtain rfl : i = args.length := by omega
          clear hlt HG hi
          have d4 := frm_lo Fr hb hbw e4
          obtain ⟨L4, hL4⟩ : ∃ L4, L4 = L3 ++ pBr prA args args.length := ⟨_, rfl⟩
          rw [← hL4] at Pr
          have lL4 : L4.length = L3.length + (pBr prA args args.length).length := by rw [hL4, List.length_append]
          have HL4 := Lib.hid hL4
          have HLL4 := Lib.hid lL4
          clear hL4 lL4 d3 e3
          go_wp2_with (fail)
          go_loopg [83] (ifs.length + 1) (fun g iv wr => ∃ i : Nat, iv = .int .i64 i ∧ g = ifs.length - i + 1 ∧ i ≤ ifs.length ∧ PP M wr pb (L4 ++ (ifs.take i).flatMap prI) ∧ Frm (Ge M) w wr)
          case atStart => exact ⟨0, rfl, rfl, Nat.zero_le _, by rw [List.take_zero]; show PP M wr pb (L4 ++ []); rw [List.append_nil]; exact Pr, Fr⟩
          case round =>
            clear Pr Fr d4
            obtain ⟨i, rfl, hg, hi, Pr, Fr⟩ := hrel
            have HG := Lib.hid hg
            clear hg
            have d4 := frm_lo Fr hb hbw e4
            by_cases hlt : i < ifs.length
            · have hst := fm_take (f := prI) hlt
              have hle := fm_le (f := prI) (l := ifs) (i + 1)
              obtain ⟨ab, ao, hao, hab, hcell⟩ := HRI.out.1.at hlt
              obtain ⟨ax, hax⟩ : ∃ ax, ax = ifs[i] := ⟨_, rfl⟩
              rw [← hax] at hcell hst
              have hmem : ax ∈ ifs := by rw [hax]; exact List.getElem_mem hlt
              have HMEM := Lib.hid hmem
              have hal : ifs.length ≤ 9223372036854775807 := by
                have h1 := HRI.out.1.facts
                unfold maxLen at h1
                omega
              clear hax hmem
              have habM : ab < M := HRI.out.2 ab (by
                rw [hao]
                obtain ⟨m, hm⟩ : ∃ m, ifs.length = m + 1 := ⟨ifs.length - 1, by omega⟩
                rw [hm]; rfl)
              obtain ⟨nm, qn⟩ : ∃ nm, nm = (if ax.skip then tSkip else tIncl) := ⟨_, rfl⟩
              obtain ⟨T, qT⟩ : ∃ T, T = L4 ++ (ifs.take i).flatMap prI := ⟨_, rfl⟩
              have hpi : prI ax = spS [⟨#[64]⟩, nm, ⟨#[40]⟩, ⟨#[105, 102]⟩, ⟨#[58]⟩] ++ prV ax.val ++ spS [⟨#[41]⟩] := by
                rw [qn]
                simp [prI, spS, sp, byL]
              have bnd : T.length + (spS [⟨#[64]⟩, nm, ⟨#[40]⟩, ⟨#[105, 102]⟩, ⟨#[58]⟩]).length + (prV ax.val).length + (spS [⟨#[41]⟩]).length ≤ 140737488355328 := by
                have h1 := HE.out
                have h2 := HLL.out
                have h3 := HLL4.out
                rw [hst, List.length_append, hpi] at hle
                simp only [List.length_append] at hle
                rw [qT, List.length_append]
                omega
              have HST := Lib.hid (show L4 ++ (ifs.take (i + 1)).flatMap prI = T ++ spS [⟨#[64]⟩, nm, ⟨#[40]⟩, ⟨#[105, 102]⟩, ⟨#[58]⟩] ++ prV ax.val ++ spS [⟨#[41]⟩] from by rw [hst, qT, hpi]; simp only [List.append_assoc])
              rw [← qT] at Pr
              have hN : wr.cell? ⟨ab, ao + i * 4, none⟩ = some (.bool ax.skip) := frm_lo Fr habM hab (hcell 0 _ rfl)
              have hV : ∀ wx, Frm (Ge M) w wx → VlAt wx M ab (ao + i * 4 + 1) ax.val := fun wx f =>
                ⟨frm_lo f habM hab (hcell 1 _ rfl), frm_lo f habM hab (hcell 2 _ rfl), frm_lo f habM hab (hcell 3 _ rfl), habM, Nat.lt_of_lt_of_le hab f.size⟩
              have HV := Lib.hid hV
              have HN := Lib.hid qn
              have HB1 := Lib.hid bnd
              have HPr := Lib.hid Pr
              have HAO := Lib.hid hao
              have HLT := Lib.hid hlt
              rw [hao] at d4
              clear hst hle qn qT hpi Pr hV bnd hcell hao
              go_upto_if 93 with fail
              go_cut [6] (fun s6 wx => s6 = .string nm ∧ wx = wr)
              case first =>
                cases hsk : ax.skip
                · go_wp2_with (fail)
                  go_meet
                  exact ⟨by rw [HN.out, hsk]; rfl, rfl⟩
                · go_wp2_with (fail)
                  go_meet
                  exact ⟨by rw [HN.out, hsk]; rfl, rfl⟩
              case rest =>
                obtain ⟨rfl, rfl⟩ := hcut
                have HAD := padd2 (n := 5) HPr.out [⟨#[64]⟩, nm, ⟨#[40]⟩, ⟨#[105, 102]⟩, ⟨#[58]⟩] rfl #[.string ⟨#[64]⟩, .string nm, .string ⟨#[40]⟩, .string ⟨#[105, 102]⟩, .string ⟨#[58]⟩] rfl (by have := HB1.out; omega)
                go_wp2_with (fail)
                refine HAD.mono ?_
                rintro e w5 ⟨rfl, P5, F5⟩
                clear HAD
                have G5 := Fr.trans F5
                have d5 := frm_lo G5 hb hbw e4
                rw [HAO.out] at d5
                have HVC := pvalue_ok P5 (HV.out w5 G5) (HII.out _ HMEM.out) (by rw [List.length_append]; have := HB1.out; omega)
                clear F5 d4 P5
                go_wp2_with (fail)
                refine HVC.mono ?_
                rintro e w6 ⟨rfl, P6, F6⟩
                clear HVC
                have G6 := G5.trans F6
                have HAD := padd2 (n := 1) P6 [⟨#[41]⟩] rfl #[.string ⟨#[41]⟩] rfl (by simp only [List.length_append]; have := HB1.out; omega)
                clear P6 d5 G5 F6
                go_wp2_with (fail)
                refine HAD.mono ?_
                rintro e w7 ⟨rfl, P7, F7⟩
                go_wp2_with (fail)
                go_roundg (ifs.length - (i + 1) + 1)
                case measure => have := HG.out; have := HLT.out; omega
                case rel => exact ⟨i + 1, by go_num, rfl, HLT.out, by rw [HST.out]; exact P7, G6.trans F7⟩
            · obtain rfl : i = ifs.length := by omega
              rw [List.take_length] at Pr
              clear hlt HG hi d4
              have d5 := frm_lo Fr hb hbw e5
              have fin : l ++ (A ++ B ++ sp (byL r2) ++ pBr prA args args.length ++ ifs.flatMap prI ++ Z) = L4 ++ ifs.flatMap prI ++ Z := by
                rw [HL4.out, HL3.out]
                simp only [List.append_assoc]
              have HF := Lib.hid fin
              clear fin e4
              cases sels with
              | nil =>
                have eZ : Z = [] := HZ.out
                have HEZ := Lib.hid eZ
                have hsn := HSN.out
                simp only [List.length_nil] at hsn
                subst hsn
                clear eZ
                go_wp2_with (fail)
                go_end0
                rw [HQ.out, HF.out, HEZ.out, List.append_nil]
                exact ⟨rfl, Pr, Fr⟩
              | cons s ss =>
                have eZ : Z = prSet (s :: ss) := HZ.out
                have bnd : (L4 ++ ifs.flatMap prI).length + (prSet (s :: ss)).length ≤ 140737488355328 := by
                  rw [← eZ, List.length_append]
                  have h1 := HE.out
                  have h2 := HLL.out
                  have h3 := HLL4.out
                  omega
                have hsn := HSN.out
                have hpos : 0 < sn := by rw [hsn]; simp
                have HS := hset Pr (hSet.frm Fr (fun k _ hk hg => by unfold Lo at hk; unfold Ge at hg; omega)) hns iS bnd
                rw [← eZ] at HS
                clear hsn eZ bnd
                go_wp2_with (fail)
                refine HS.mono ?_
                rintro e w8 ⟨rfl, P8, F8⟩
                go_wp2_with (fail)
                go_end0
                rw [HQ.out, HF.out]
                exact ⟨rfl, P8, Fr.trans F8⟩
end Go.Proofs.YthaegncocdddfaaGreatDoor

/- The printer, walked: set. -/
namespace Go.Proofs.YthaegncocdddfaaGreatDoor
set_option linter.unusedVariables false
set_option linter.unusedSimpArgs false
open Go.RowKit Go.Lib Go.Tt Go.Shelf
set_option maxHeartbeats 8000000 in
set_option maxRecDepth 100000 in
theorem pset_ok {n : Nat} (hsel : PSelC n) : PSetC n := by
  intro M w pb l v ss h hr hn hI hlen
  obtain ⟨rs, hS, hAll⟩ := hr
  have hl := hAll.len
  obtain ⟨av, cv, rfl⟩ := hS.1.sh
  have hal : ss.length ≤ 9223372036854775807 := by
    have h1 := hS.1.facts
    unfold maxLen at h1
    omega
  have e0 : prSet ss = spS [⟨#[123]⟩] ++ prSs ss ++ spS [⟨#[125]⟩] := by simp [prSet, spS, sp, byL]
  rw [e0] at hlen ⊢
  simp only [List.length_append] at hlen
  have HE := Lib.hid hlen
  have HAD := padd2 (n := 1) h [⟨#[123]⟩] rfl #[.string ⟨#[123]⟩] rfl (by omega)
  have HS := Lib.hid hS
  have HAll := Lib.hid hAll
  rw [hl]
  have HLN := Lib.hid hl
  obtain ⟨R, hR⟩ : ∃ R : Ending → World → Prop, R = fun e w' => e = .returned (.tuple #[]) ∧ PP M w' pb (l ++ (spS [⟨#[123]⟩] ++ prSs ss ++ spS [⟨#[125]⟩])) ∧ Frm (Ge M) w w' := ⟨_, rfl⟩
  rw [← hR]
  have HQ := Lib.hid hR
  clear hR e0 hlen hS hAll hl h
  go_enter Tryz.func58, Tryz.ntmps58
  go_wp2_with (fail)
  refine HAD.mono ?_
  rintro e w1 ⟨rfl, P1, F1⟩
  clear HAD
  go_wp2_with (fail)
  go_loopg [10] (ss.length + 1) (fun g iv wr => ∃ i : Nat, iv = .int .i64 i ∧ g = ss.length - i + 1 ∧ i ≤ ss.length ∧ PP M wr pb (l ++ spS [⟨#[123]⟩] ++ prSs (ss.take i)) ∧ Frm (Ge M) w wr)
  case atStart => exact ⟨0, rfl, rfl, Nat.zero_le _, by rw [List.take_zero]; show PP M w1 pb (_ ++ []); rw [List.append_nil]; exact P1, F1⟩
  case round =>
    clear P1 F1
    obtain ⟨i, rfl, hg, hi, Pr, Fr⟩ := hrel
    have HG := Lib.hid hg
    clear hg
    by_cases hlt : i < ss.length
    · have hlt' : i < rs.length := by have := HLN.out; omega
      obtain ⟨ab, ao, hao, hab, hcell⟩ := HS.out.1.at hlt'
      have habM : ab < M := HS.out.2 ab (by
        rw [hao]
        obtain ⟨m, hm⟩ : ∃ m, rs.length = m + 1 := ⟨rs.length - 1, by omega⟩
        rw [hm]; rfl)
      have hst := prSs_take hlt
      have hle := prSs_le (ss := ss) (i + 1)
      rw [hst, List.length_append] at hle
      have HC := hsel Pr habM (Nat.lt_of_lt_of_le hab Fr.size) (fun j u hj => frm_lo Fr habM hab (by have := hcell j u hj; rw [← Nat.add_assoc] at this; exact this)) ((HAll.out.at i hlt hlt').frm Fr fun k _ hk hg => by unfold Lo at hk; unfold Ge at hg; omega) (Nat.le_trans (nS_le_at i hlt) hn) (hI.at i hlt) (by simp only [List.length_append]; have := HE.out; omega)
      have HST := Lib.hid hst
      subst hao
      have HLT := Lib.hid hlt
      clear hst hle hcell hlt'
      go_wp2_with (fail)
      refine HC.mono ?_
      rintro e w2 ⟨rfl, P2, F2⟩
      go_wp2_with (fail)
      go_roundg (ss.length - (i + 1) + 1)
      case measure => have := HG.out; have := HLT.out; omega
      case rel => exact ⟨i + 1, by go_num, rfl, HLT.out, by rw [HST.out, ← List.append_assoc]; exact P2, Fr.trans F2⟩
    · obtain rfl : i = ss.length := by omega
      rw [List.take_length] at Pr
      clear hlt HG hi
      have HAD := padd2 (n := 1) Pr [⟨#[125]⟩] rfl #[.string ⟨#[125]⟩] rfl (by simp only [List.length_append]; have := HE.out; omega)
      go_wp2_with (fail)
      refine HAD.mono ?_
      rintro e w2 ⟨rfl, P2, F2⟩
      go_wp2_with (fail)
      go_end0
      rw [HQ.out]
      refine ⟨rfl, ?_, Fr.trans F2⟩
      simp only [← List.append_assoc]
      exact P2
theorem pset_all : ∀ n, PSetC n
  | 0 => pset_ok fun {_ _ _ _ _ _ _ s} _ _ _ _ _ hn => by have := nS_pos s; omega
  | n + 1 => pset_ok (psel_ok (pset_all n))
end Go.Proofs.YthaegncocdddfaaGreatDoor

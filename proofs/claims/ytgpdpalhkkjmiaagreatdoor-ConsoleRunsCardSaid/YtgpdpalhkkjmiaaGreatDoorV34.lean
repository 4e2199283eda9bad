/- Merged: ConQ ConR. -/
import Derived.Test.YtgpdpalhkkjmiaaGreatDoorV33
/- The console: pairs. -/
namespace Go.Proofs.YtgpdpalhkkjmiaaGreatDoor
set_option linter.unusedVariables false
set_option linter.unusedSimpArgs false
set_option linter.unusedVariables false
set_option linter.unusedSimpArgs false
open Go.RowKit Go.Lib Go.Tt Go.Shelf
/-- What pair tells. -/
def pairR (ws : List ByteArray) : List UInt8 × Int := match numsL ws with
  | none => ([], 2500)
  | some ns => if ns.length % 2 = 1 then ([], 2500) else (gtext (sumP (0, 0) (pairsUp ns)), 0)
theorem numsL_cons (w : ByteArray) (ws : List ByteArray) : numsL (w :: ws) = match numL w.data.toList with | none => none | some x => match numsL ws with | none => none | some xs => some (x :: xs) := rfl
structure NumW (ws : List ByteArray) (i : Nat) (ns : List Int) : Prop where
  len : ns.length = i
  bd : ∀ x ∈ ns, -1000000 < x ∧ x < 1000000
  go : numsL ws = (numsL (ws.drop i)).map (ns ++ ·)
theorem NumW.nil (ws : List ByteArray) : NumW ws 0 [] := ⟨rfl, by simp, by
  rw [List.drop_zero]; cases numsL ws <;> simp⟩
theorem NumW.step {ws : List ByteArray} {i : Nat} {ns : List Int} (h : NumW ws i ns) (hi : i < ws.length) {x : Int} (hx : numL ws[i].data.toList = some x) : NumW ws (i + 1) (ns ++ [x]) := by
  refine ⟨by rw [List.length_append, h.len]; rfl, ?_, ?_⟩
  · intro y hy
    rw [List.mem_append, List.mem_singleton] at hy
    rcases hy with hy | rfl
    · exact h.bd y hy
    · exact num_bound hx
  · rw [h.go, List.drop_eq_getElem_cons hi]
    rw [numsL_cons, hx]
    cases numsL (ws.drop (i + 1)) <;> simp
theorem NumW.no {ws : List ByteArray} {i : Nat} {ns : List Int} (h : NumW ws i ns) (hi : i < ws.length) (hx : numL ws[i].data.toList = none) : pairR ws = ([], 2500) := by
  have : numsL ws = none := by
    rw [h.go, List.drop_eq_getElem_cons hi]
    rw [numsL_cons, hx]; rfl
  unfold pairR
  rw [this]
theorem NumW.fin {ws : List ByteArray} {i : Nat} {ns : List Int} (h : NumW ws i ns) (hi : i = ws.length) : numsL ws = some ns := by
  rw [h.go, hi, List.drop_length]
  simp [numsL]
theorem pairR_odd {ws : List ByteArray} {ns : List Int} (h : numsL ws = some ns) (ho : ns.length % 2 = 1) : pairR ws = ([], 2500) := by
  unfold pairR; rw [h]; exact if_pos ho
theorem pairR_even {ws : List ByteArray} {ns : List Int} (h : numsL ws = some ns) (ho : ¬ ns.length % 2 = 1) : pairR ws = (gtext (sumP (0, 0) (pairsUp ns)), 0) := by
  unfold pairR; rw [h]; exact if_neg ho
theorem pairsUp_step : ∀ (ns : List Int) (k : Nat) (h : 2 * k + 1 < ns.length), pairsUp (ns.take (2 * (k + 1))) = pairsUp (ns.take (2 * k)) ++ [(ns[2 * k], ns[2 * k + 1])]
  | [], k, h => by simp at h
  | [a], k, h => by simp at h
  | a :: b :: t, 0, h => rfl
  | a :: b :: t, k + 1, h => by
    have h' : 2 * k + 1 < t.length := by rw [List.length_cons, List.length_cons] at h; omega
    have ih := pairsUp_step t k h'
    have e1 : (a :: b :: t).take (2 * (k + 1 + 1)) = a :: b :: t.take (2 * (k + 1)) := by
      rw [show 2 * (k + 1 + 1) = (2 * (k + 1)) + 1 + 1 by omega]; rfl
    have e2 : (a :: b :: t).take (2 * (k + 1)) = a :: b :: t.take (2 * k) := by
      rw [show 2 * (k + 1) = (2 * k) + 1 + 1 by omega]; rfl
    rw [e1, e2]
    show (a, b) :: pairsUp (t.take (2 * (k + 1))) = (a, b) :: pairsUp (t.take (2 * k)) ++ _
    rw [ih]
    rfl
theorem pairsUp_len : ∀ ns : List Int, (pairsUp ns).length ≤ ns.length
  | [] => Nat.le_refl _
  | [a] => by simp [pairsUp]
  | a :: b :: t => by
    have := pairsUp_len t
    show ((a, b) :: pairsUp t).length ≤ _
    rw [List.length_cons, List.length_cons, List.length_cons]; omega
theorem pairsUp_half (ns : List Int) : ∀ k, 2 * k ≤ ns.length → (pairsUp (ns.take (2 * k))).length = k
  | 0, _ => rfl
  | k + 1, h => by rw [pairsUp_step ns k (by omega), List.length_append, pairsUp_half ns k (by omega)]; rfl
theorem pairsUp_mem : ∀ {ns : List Int} {p : Int × Int}, p ∈ pairsUp ns → p.1 ∈ ns ∧ p.2 ∈ ns
  | [], p, h => by cases h
  | [a], p, h => by cases h
  | a :: b :: t, p, h => by
    have h' : p ∈ (a, b) :: pairsUp t := h
    rw [List.mem_cons] at h'
    rcases h' with rfl | h'
    · exact ⟨List.mem_cons_self .., List.mem_cons_of_mem _ (List.mem_cons_self ..)⟩
    · have := pairsUp_mem h'
      exact ⟨List.mem_cons_of_mem _ (List.mem_cons_of_mem _ this.1), List.mem_cons_of_mem _ (List.mem_cons_of_mem _ this.2)⟩
theorem pairsUp_b {ns : List Int} (hl : ns.length ≤ 65537) (h : ∀ x ∈ ns, -1000000 < x ∧ x < 1000000) : PrB (pairsUp ns) :=
  ⟨Nat.le_trans (pairsUp_len ns) hl, fun p hp => by
    have := pairsUp_mem hp
    exact ⟨(h _ this.1).1, (h _ this.1).2, (h _ this.2).1, (h _ this.2).2⟩⟩
theorem i_pr : (Tryz.prog.info? 65).map (fun i => (i.zero, i.size, i.bytes)) = some (some (.agg #[.int .i64 0, .int .i64 0]), eDt.k, 16) := by kernel_rfl
set_option maxHeartbeats 8000000 in
set_option maxRecDepth 100000 in
theorem consPair_ok {w : World} (ht : Tab w) {a : Option Addr} {n c : Nat} {ws : List ByteArray} (h : RdS w eStr (.slice a n c) ws) (hw : wsz ws ≤ 65537) :
    Calls Tryz.prog 46 #[.slice a n c] w fun e w' => e = .returned (.tuple #[.string ⟨(pairR ws).1.toArray⟩, .int .i64 (pairR ws).2]) ∧ Frm No w w' := by
  have hn := h.facts
  have HN := Lib.hid hn.1
  have R1 := Lib.hid h
  have HW := Lib.hid hw
  have hle : n ≤ 65537 := by have := wsz_len ws; omega
  have HT := Lib.hid ht
  clear h hn hw ht
  obtain ⟨R, hR⟩ : ∃ R, Hid (R = pairR ws) := ⟨_, Lib.hid rfl⟩
  rw [← hR.out]
  go_enter Tryz.func46, Tryz.ntmps46
  go_wp2_with (fail)
  go_loopg [4, 15] (n + 1) (fun gg ov iv wr => ∃ (i : Nat) (ns : List Int) (ao : Option Addr) (co : Nat), iv = .int .i64 i ∧ ov = .slice ao i co ∧ i ≤ n ∧ gg = n - i + 1 ∧ Frm No w wr ∧ Ow wr (fun k => w.heap.size ≤ k) 3 eInt (.slice ao i co) ns ∧ NumW ws i ns)
  case atStart => exact ⟨0, [], none, 0, rfl, rfl, Nat.zero_le _, by omega, Frm.refl _ _, Ow.nil _ _ _ _ _, NumW.nil ws⟩
  case round =>
    obtain ⟨i, ns, ao, co, rfl, rfl, hi, hg, F, O, S⟩ := hrel
    have hG := Lib.hid hg
    have HS := Lib.hid S
    have HLN := Lib.hid S.len
    clear hg S
    by_cases hlt : i < n
    · have l1 : i < ws.length := by rw [← HN.out]; exact hlt
      obtain ⟨b, off, rfl, hbb, hc⟩ := (R1.out.no F).at l1
      have e0 : wr.cell? ⟨b, off + i, none⟩ = some (.string ws[i]) := by have := hc 0 _ rfl; rwa [show off + (i * eStr.k + 0) = off + i from by show off + (i * 1 + 0) = off + i; omega] at this
      have hxw := wsz_at l1
      clear hc
      obtain ⟨x, hx⟩ : ∃ x, Hid (x = ws[i]) := ⟨_, Lib.hid rfl⟩
      rw [← hx.out] at e0 hxw
      have hxm : x.size ≤ 9223372036854775807 := by have := HW.out; omega
      clear hxw
      have HC := consNum_ok x hxm
      cases hnum : numL x.data.toList with
      | none =>
        have HR := Lib.hid (hR.out.trans (HS.out.no l1 (by rw [← hx.out]; exact hnum)))
        rw [numR_no hnum] at HC
        have HC := Lib.hid HC
        clear hnum
        go_wp2_with (fail)
        refine (HC.out _).mono ?_
        rintro e w2 ⟨rfl, f2⟩
        go_wp2_with (fail)
        go_ret2
        rw [HR.out]
        exact ⟨rfl, F.trans f2⟩
      | some y =>
        have HS1 := Lib.hid (HS.out.step l1 (x := y) (by rw [← hx.out]; exact hnum))
        rw [numR_yes hnum] at HC
        have HC := Lib.hid HC
        clear hnum
        go_wp2_with (fail)
        refine (HC.out _).mono ?_
        rintro e w2 ⟨rfl, f2⟩
        have z2 := f2.size
        go_wp2_with (at_builtin; refine wpList_ap _ rfl (.tmp 26) (.tmp 28) 33 33 rfl 3 _ 8 Tryz.underlying33 i_int rfl ((O.no f2).al _) ((RdS.litg _ eInt y _ (g := w2.heap.size) rfl).src Tryz.underlying33) rfl rfl rfl ?c1 ?c2 ?_)
        case c1 => rw [HLN.out]; unfold maxLen; omega
        case c2 => rw [HLN.out]; omega
        intro a' c' w3 o3 f3
        have F3 : Frm No w w3 := ((F.trans f2).al _).then f3 fun k hk hh => by omega
        rw [HLN.out] at o3
        go_wp2_with (fail)
        go_roundg (n - (i + 1) + 1)
        case measure => have := hG.out; omega
        case rel => exact ⟨i + 1, ns ++ [y], a', c', by go_num, by rw [HLN.out], by omega, rfl, F3, o3.mono fun k _ hh => (by rcases hh with hh | hh; exact hh; have := hh.1; have := F.size; simp at *; omega), HS1.out⟩
    · have hii : ¬ ((i : Int) < n) := by omega
      obtain rfl : i = n := by omega
      have hnums := HS.out.fin HN.out
      have hbd := HS.out.bd
      have hnl := HLN.out
      have RA := Lib.hid O.rd
      by_cases ho : i % 2 = 1
      · have HR := Lib.hid (hR.out.trans (pairR_odd hnums (by rw [hnl]; exact ho)))
        have hod : (((i : Int) % 2) == 1) = true := by simp; omega
        clear ho hnums hbd hnl
        go_wp2_with (fail)
        go_ret2
        rw [HR.out]
        exact ⟨rfl, F⟩
      · have HR := Lib.hid (hR.out.trans (pairR_even hnums (by rw [hnl]; exact ho)))
        have hod : (((i : Int) % 2) == 1) = false := by simp; omega
        have HO := Lib.hid ho
        have HPB := Lib.hid (pairsUp_b (by omega) hbd)
        clear ho hnums hbd hnl
        obtain ⟨wm, hwm⟩ : ∃ wm, wm = wr := ⟨_, rfl⟩
        have O2 : Ow wm (fun k => w.heap.size ≤ k) 3 eInt (.slice ao i co) ns := by rw [hwm]; exact O
        have F2 : Frm No w wm := by rw [hwm]; exact F
        clear O F RA
        subst hwm
        have RA := Lib.hid O2.rd
        clear O2
        go_wp2_with (fail)
        go_loopg [9, 10] (i + 1) (fun gg ov iv wr => ∃ (k j : Nat) (ao : Option Addr) (co : Nat), iv = .int .i64 j ∧ ov = .slice ao k co ∧ j = 2 * k ∧ j ≤ i ∧ gg = i - j + 1 ∧ Frm No wm wr ∧ Ow wr (fun k => wm.heap.size ≤ k) 65 eDt (.slice ao k co) (pairsUp (ns.take j)))
        case atStart => exact ⟨0, 0, none, 0, rfl, rfl, rfl, Nat.zero_le _, by omega, Frm.refl _ _, Ow.nil _ _ _ _ _⟩
        case round =>
          obtain ⟨k, j, ap, cp, rfl, rfl, hj2, hj, hg, F, O⟩ := hrel
          have hG := Lib.hid hg
          have HJ2 := Lib.hid hj2
          clear hg
          by_cases hlt : j < i
          · have hj1 : j + 1 < i := by have := HO.out; omega
            have l1 : j < ns.length := by rw [HLN.out]; exact hlt
            have l2 : j + 1 < ns.length := by rw [HLN.out]; exact hj1
            clear hj2
            obtain ⟨b, off, rfl, hbb, hc⟩ := (RA.out.no F).at l1
            have e0 : wr.cell? ⟨b, off + j, none⟩ = some (.int .i64 ns[j]) := by have := hc 0 _ rfl; rwa [show off + (j * eInt.k + 0) = off + j from by show off + (j * 1 + 0) = off + j; omega] at this
            obtain ⟨b', off', hbe, hbb', hc'⟩ := (RA.out.no F).at l2
            simp only [Option.some.injEq, Addr.mk.injEq, and_true] at hbe
            obtain ⟨rfl, rfl⟩ := hbe
            have e1 : wr.cell? ⟨b, off + (j + 1), none⟩ = some (.int .i64 ns[j + 1]) := by have := hc' 0 _ rfl; rwa [show off + ((j + 1) * eInt.k + 0) = off + (j + 1) from by show off + ((j + 1) * 1 + 0) = off + (j + 1); omega] at this
            clear hc hc'
            have HP : Hid (pairsUp (ns.take (j + 2)) = pairsUp (ns.take j) ++ [(ns[j], ns[j + 1])]) := Lib.hid (by
              have hjk := HJ2.out
              subst hjk
              exact pairsUp_step ns k (by omega))
            have HK : Hid ((pairsUp (ns.take j)).length = k) := Lib.hid (by
              rw [HJ2.out]; exact pairsUp_half ns k (by rw [← HJ2.out, HLN.out]; omega))
            obtain ⟨x, hx⟩ : ∃ x, Hid (x = ns[j]) := ⟨_, Lib.hid rfl⟩
            obtain ⟨y, hy⟩ : ∃ y, Hid (y = ns[j + 1]) := ⟨_, Lib.hid rfl⟩
            rw [← hx.out] at e0 HP
            rw [← hy.out] at e1 HP
            have hkj : k ≤ i := by have := HJ2.out; omega
            go_wp2_with (fail)
            refine wp_region_plan [([0, 1, 2, 3, 4, 5, 6, 7], [4]), ([8, 9, 10, 11, 12, 13], [])] 64 (by kernel_rfl) (by kernel_rfl) (by simp) ?_
            intro N hN
            simp only [wpSegs, List.map_cons, List.map_nil, List.getD_cons_zero, List.getD_cons_succ]
            go_wp2_with (fail)
            refine ⟨again_cons (again_of rfl rfl ?_) again_nil, ?_⟩
            · go_simp
            go_wp2_with (at_builtin; refine wpList_ap _ rfl (.tmp 41) (.tmp 52) 61 61 rfl 65 _ 16 Tryz.underlying61 i_pr rfl ((O.al _).frm (Frm.drew No _) fun k _ h => h) ((RdS.litg wr eDt (x, y) _ (g := wr.heap.size) rfl).drew.src Tryz.underlying61) rfl rfl rfl ?c1 ?c2 ?_)
            case c1 => rw [HK.out]; unfold maxLen; omega
            case c2 => rw [HK.out]; omega
            intro a' c' w3 o3 f3
            have F3 : Frm No wm w3 := ((F.al _).trans (Frm.drew No _)).then f3 fun k hk hh => by omega
            rw [HK.out] at o3
            go_wp2_with (fail)
            go_roundg (i - (j + 2) + 1)
            case measure => have := hG.out; omega
            case rel => exact ⟨k + 1, j + 2, a', c', by go_num, by rw [HK.out], by have := HJ2.out; omega, by omega, rfl, F3, by rw [HP.out]; exact o3.mono fun k _ hh => (by rcases hh with hh | hh; exact hh; have := hh.1; have := F.size; simp at *; omega)⟩
          · have hij : ¬ ((j : Int) < i) := by omega
            obtain rfl : j = i := by omega
            rw [List.take_of_length_le (by rw [HLN.out]; exact Nat.le_refl _)] at O
            have RP := Lib.hid O.rd
            obtain ⟨p, hp⟩ : ∃ p, Hid (p = sumP (0, 0) (pairsUp ns)) := ⟨_, Lib.hid rfl⟩
            rw [← hp.out] at HR
            have hpl := HPB.out.len
            have hpb := sumP_bd HPB.out _ (Nat.le_refl _)
            rw [List.take_length, ← hp.out] at hpb
            have hp1 : (-4503599627370496 ≤ p.1 ∧ p.1 ≤ 4503599627370496) ∧ -4503599627370496 ≤ p.2 ∧ p.2 ≤ 4503599627370496 := by omega
            have HTX := Lib.hid (fun W (f : Frm No w W) => gaussText_ok p hp1.1 hp1.2 (HT.out.frm f))
            clear hpb hpl hp1 hj2
            go_wp2_with (fail)
            refine (gaussSum_ok RP.out HPB.out hp).mono ?_
            rintro e w2 ⟨rfl, f2⟩
            have F4 := (F2.trans F).trans f2
            go_wp2_with (fail)
            refine (HTX.out _ (F4.al _)).mono ?_
            rintro e w3 ⟨rfl, f3⟩
            go_wp2_with (fail)
            go_ret2
            rw [HR.out]
            exact ⟨rfl, (F4.al _).trans f3⟩
end Go.Proofs.YtgpdpalhkkjmiaaGreatDoor

/- The console: sum, a line. -/
namespace Go.Proofs.YtgpdpalhkkjmiaaGreatDoor
set_option linter.unusedVariables false
set_option linter.unusedSimpArgs false
open Go.RowKit Go.Lib Go.Tt Go.Shelf
theorem adl_bd (l : List UInt8) : adlG 1 0 l ≤ 4294967295 := by
  have := adl_lt l 1 0 (by decide) (by decide); omega
set_option maxRecDepth 100000 in
theorem consSum_ok {w : World} (ht : Tab w) {a : Option Addr} {n c : Nat} {ws : List ByteArray} (h : RdS w eStr (.slice a n c) ws) (hw : wsz ws ≤ 65537) :
    Calls Tryz.prog 47 #[.slice a n c] w fun e w' => e = .returned (.tuple #[.string ⟨(sumT ws).toArray⟩, .int .i64 0]) ∧ Frm No w w' := by
  have HJ := Lib.hid (cjoin_ok h ⟨#[]⟩ (by decide) (by omega))
  have hj := join_wsz ws [] (by decide)
  obtain ⟨jt, hjt⟩ : ∃ jt : ByteArray, Hid (jt = ⟨(joinT ws []).toArray⟩) := ⟨_, Lib.hid rfl⟩
  have hjs : jt.size ≤ 9223372036854775807 := by rw [hjt.out, size_eq]; show (List.toArray _).toList.length ≤ _; rw [List.toList_toArray]; omega
  have HS := Lib.hid (frameSum_ok jt hjs)
  have hb := adl_bd jt.data.toList
  obtain ⟨s, hs⟩ : ∃ s, Hid (s = adlG 1 0 jt.data.toList) := ⟨_, Lib.hid rfl⟩
  rw [← hs.out] at HS hb
  have HI := Lib.hid (fun W (f : Frm No w W) => itoa_ok (s : Int) ⟨by omega, by omega⟩ (ht.frm f))
  have hr : Hid (sumT ws = Lib.itoa (s : Int)) := Lib.hid (by unfold sumT; rw [hs.out, hjt.out, List.toList_toArray])
  rw [hr.out]
  have HJ : Hid (Calls Tryz.prog 68 #[.slice a n c, .string ⟨#[]⟩] w fun e w' => e = .returned (.string jt) ∧ Frm No w w') := Lib.hid (by rw [hjt.out]; exact HJ.out)
  clear h hw hj hjs hb ht
  go_enter Tryz.func47, Tryz.ntmps47
  go_wp2_with (fail)
  refine HJ.out.mono ?_
  rintro e w1 ⟨rfl, f1⟩
  go_wp2_with (fail)
  refine (HS.out _).mono ?_
  rintro e w2 ⟨rfl, rfl⟩
  go_wp2_with (fail)
  refine (HI.out _ f1).mono ?_
  rintro e w3 ⟨rfl, f3⟩
  go_wp2_with (fail)
  go_ret2
  exact ⟨rfl, f1.trans f3⟩
set_option maxRecDepth 100000 in
theorem commands_ok (w : World) : Calls Tryz.prog 27 #[] w fun e w' => e = .returned (.slice (some ⟨w.heap.size, 0, none⟩) 4 4) ∧ w' = w.alloc (.cells #[.string ⟨#[112, 97, 105, 114]⟩, .func (.func 46) #[] #[], .string ⟨#[115, 117, 109]⟩, .func (.func 47) #[] #[], .string ⟨#[115, 101, 116]⟩, .func (.func 48) #[] #[], .string ⟨#[108, 105, 115, 116]⟩, .func (.func 49) #[] #[]] 59 (0, 0)) := by
  go_enter Tryz.func27, Tryz.ntmps27
  go_wp2_with (fail)
  go_ret
  exact ⟨rfl, rfl⟩
end Go.Proofs.YtgpdpalhkkjmiaaGreatDoor

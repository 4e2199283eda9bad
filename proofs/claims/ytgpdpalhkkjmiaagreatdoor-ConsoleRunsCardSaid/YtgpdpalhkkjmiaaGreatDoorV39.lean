/- Merged: ConLs RowCon TopV. -/
import Derived.Test.YtgpdpalhkkjmiaaGreatDoorCards
import Derived.Test.YtgpdpalhkkjmiaaGreatDoorTie
import Derived.WalkKit
import Derived.ProofKit
import Derived.OpenShut
import Derived.Deep.DeepHandedRow
import Derived.Lib.LaidTab
import Derived.Test.YtgpdpalhkkjmiaaGreatDoorV13
import Derived.Test.YtgpdpalhkkjmiaaGreatDoorV22
import Derived.Test.YtgpdpalhkkjmiaaGreatDoorV36
import Derived.Test.YtgpdpalhkkjmiaaGreatDoorV37
import Derived.Test.YtgpdpalhkkjmiaaGreatDoorV38
/- ConsoleLists, walked. -/
namespace Go.Proofs.YtgpdpalhkkjmiaaGreatDoor
set_option linter.unusedVariables false
set_option linter.unusedSimpArgs false
set_option linter.unusedVariables false
set_option linter.unusedSimpArgs false
open Go.RowKit Go.Lib Go.Tt Go.Shelf Go.WideShapes
set_option maxHeartbeats 8000000 in
set_option maxRecDepth 100000 in
theorem consoleLists_ok {w : World} (ht : Tab w) {a : Option Addr} {n c : Nat} {zs : List Int} (hz : RdS w eInt (.slice a n c) zs) (hzb : zs.length ≤ 140737488355328) : Calls Tryz.prog 7 #[.slice a n c] w fun e w' => e = .returned (.bool true) ∧ Frm No w w' := by
  have H0 := conAwake_ok ht
  have HT := Lib.hid ht
  have hn := hz.facts
  have HN := Lib.hid hn.1
  have R1 := Lib.hid hz
  have hle : n ≤ 140737488355328 := by rw [hn.1]; exact hzb
  clear hn hz ht hzb
  go_enter Tryz.func7, Tryz.ntmps7
  go_wp2_with (fail)
  refine H0.mono ?_
  rintro e w0 ⟨rfl, f0⟩
  clear H0
  go_wp2_with (fail)
  go_loopg [3, 4, 5] (30 + 1) (fun gg sv rv iv wr => ∃ (i : Nat) (S : ByteArray) (r : List Nat) (ar : Option Addr) (nr cr : Nat), iv = .int .i64 i ∧ sv = .string S ∧ rv = .slice ar nr cr ∧ i ≤ 30 ∧ gg = 30 - i + 1 ∧ Frm No w0 wr ∧ Ow wr (fun k => w0.heap.size ≤ k) 9 eStr (.slice ar nr cr) (r.map w8B) ∧ ListsW i S r)
  case atStart => exact ⟨0, _, [], none, 0, 0, rfl, rfl, rfl, by omega, rfl, Frm.refl No _, Ow.nil _ _ _ _ _, ListsW.nil⟩
  case round =>
    obtain ⟨i, S, r, ar, nr, cr, rfl, rfl, rfl, hi, hg, F, O, M⟩ := hrel
    have hG := Lib.hid hg
    have hsz : S.size ≤ 3000 ∧ r.length ≤ 30 ∧ ∀ k ∈ r, k ≤ 1023 := by
      obtain ⟨ps, l, h1, h2, h3, h4, h5, h6, h7⟩ := M
      exact ⟨by omega, by omega, h2⟩
    have HM := Lib.hid M
    have hS := hsz.1
    have HRL := Lib.hid hsz.2
    have FF := f0.trans F
    have hnr := O.cap
    rw [List.length_map] at hnr
    have hnr30 : nr ≤ 30 := by omega
    have HNR := Lib.hid hnr.1
    have hncr := hnr.2
    clear hg M hsz hnr
    by_cases h12 : i < n ∧ i < 30
    · obtain ⟨h1, h2⟩ := h12
      have l1 : i < zs.length := by rw [← HN.out]; exact h1
      obtain ⟨b, off, rfl, hbb, hc⟩ := (R1.out.no FF).at l1
      have e0 : wr.cell? ⟨b, off + i, none⟩ = some (.int .i64 zs[i]) := by have := hc 0 _ rfl; rwa [show off + (i * eInt.k + 0) = off + i from by show off + (i * 1 + 0) = off + i; omega] at this
      clear hc
      obtain ⟨z, hz⟩ : ∃ z, Hid (z = zs[i]) := ⟨_, Lib.hid rfl⟩
      rw [← hz.out] at e0
      obtain ⟨d, hd, hd3⟩ := mask_nat 3 z _ (and_3 z)
      by_cases h3 : d = 3
      · have q : ((d : Int) == 3) = true := by rw [h3]; rfl
        have HS1 : Hid (ListsW (i + 1) (S ++ ⟨#[32, 45, 120]⟩) r.tail) := Lib.hid (HM.out.step none (fun k h => by cases h) (by simp [ByteArray.data_append, lpW]))
        clear h3
        cases r with
        | nil =>
          obtain rfl : nr = 0 := HNR.out
          go_wp2_with (fail)
          go_roundg (30 - (i + 1) + 1)
          case measure => have := hG.out; omega
          case rel => exact ⟨i + 1, _, [], ar, 0, cr, by go_num, rfl, rfl, by omega, rfl, F, O, HS1.out⟩
        | cons k0 r =>
          have hn0 : 0 < nr := by rw [HNR.out, List.length_cons]; omega
          have hrd := O.rd
          obtain ⟨rb, ro, rfl, hrb, -⟩ := hrd.at (i := 0) (by simp)
          rw [List.map_cons] at hrd
          obtain ⟨off', hoff⟩ : ∃ o, Hid (o = if cr = 1 then ro else ro + 1) := ⟨_, Lib.hid rfl⟩
          obtain ⟨n', hn'⟩ : ∃ o, Hid (o = nr - 1) := ⟨_, Lib.hid rfl⟩
          obtain ⟨c', hc'⟩ : ∃ o, Hid (o = cr - 1) := ⟨_, Lib.hid rfl⟩
          have hsl := fun W => run_rest W (b := rb) (off := ro) (n := nr) (c := cr) hn0 hncr
          have hrd := rd_rest hrd
          rw [← hoff.out, ← hn'.out, ← hc'.out] at hsl hrd
          have HRD := Lib.hid hrd
          have HNL : Hid (n' = (r.map w8B).length) := Lib.hid (by rw [hn'.out, HNR.out, List.length_map, List.length_cons]; omega)
          have hn30 : n' ≤ 30 := by have := hn'.out; omega
          clear hrd O
          go_wp2_with (at_builtin; refine wpList_ap _ rfl (.tmp 34) (.tmp 36) 28 28 rfl 9 _ 16 Tryz.underlying28 i_str rfl (Ow.nil _ No _ eStr _) ((HRD.out.no ((Frm.refl No _).al _)).src Tryz.underlying28) HNL.out rfl rfl ?c1 ?c2 ?_)
          case c1 => unfold maxLen; simp only [List.length_nil]; omega
          case c2 => simp only [List.length_nil]; omega
          intro a2 c2 w3 o3 f3
          have F3 : Frm No w0 w3 := (F.al _).trans f3
          have z1 := F.size
          go_wp2_with (fail)
          go_roundg (30 - (i + 1) + 1)
          case measure => have := hG.out; omega
          case rel => exact ⟨i + 1, _, r, a2, n', c2, by go_num, rfl, rfl, by omega, rfl, F3, o3.mono fun k _ hh => (by rcases hh with hh | hh; exact hh.elim; have := hh.1; simp at *; omega), HS1.out⟩
      · have q : ((d : Int) == 3) = false := by simp; omega
        clear h3
        obtain ⟨k, hk, hk7⟩ := mask_nat 1023 z _ (and_1023 z)
        have HD := Lib.hid (refDecimal_ok k (by omega))
        obtain ⟨dk, hdk⟩ : ∃ dk : ByteArray, Hid (dk = ⟨(Lib.decDigits k).toArray⟩) := ⟨_, Lib.hid rfl⟩
        have hdz : dk.size ≤ 21 := by rw [hdk.out]; exact dec_sz (by omega)
        have HWB : Hid ((⟨#[119]⟩ : ByteArray) ++ dk = w8B k) := Lib.hid (by rw [hdk.out]; exact w8_str k)
        rw [← hdk.out] at HD
        have HS1 : Hid (ListsW (i + 1) (S ++ ⟨#[32]⟩ ++ (⟨#[119]⟩ ++ dk)) (r ++ [k])) := Lib.hid (HM.out.step (some k) (fun j h => by cases h; omega) (by
          rw [hdk.out]
          simp [ByteArray.data_append, lpW, w8]))
        have z1 := F.size
        go_wp2_with (fail)
        refine (HD.out _).mono ?_
        rintro e w1 ⟨rfl, f1⟩
        have z2 := f1.size
        go_wp2_with (at_builtin; refine wpList_ap _ rfl (.tmp 49) (.tmp 51) 28 28 rfl 9 _ 16 Tryz.underlying28 i_str rfl ((O.no f1).al _) ((RdS.litg _ eStr ((⟨#[119]⟩ : ByteArray) ++ dk) _ (g := w1.heap.size) rfl).src Tryz.underlying28) rfl rfl rfl ?c1 ?c2 ?_)
        case c1 => rw [List.length_map, ← HNR.out]; unfold maxLen; omega
        case c2 => rw [List.length_map, ← HNR.out]; omega
        intro a2 c2 w3 o3 f3
        have F3 : Frm No w0 w3 := ((F.trans f1).al _).then f3 fun k hk hh => by omega
        rw [← HNR.out, HWB.out] at o3
        go_wp2_with (fail)
        go_roundg (30 - (i + 1) + 1)
        case measure => have := hG.out; omega
        case rel => exact ⟨i + 1, _, r ++ [k], a2, nr + 1, c2, by go_num, rfl, by rw [← HNR.out], by omega, rfl, F3, by rw [List.map_append]; exact o3.mono fun k _ hh => (by rcases hh with hh | hh; exact hh; have := hh.1; simp at *; omega), HS1.out⟩
    · have HR := Lib.hid (fun W (f : Frm No w W) => run_ok (HT.out.frm f) S (by omega))
      obtain ⟨R, hR⟩ : ∃ R : ByteArray, Hid (R = ⟨(runL S.data.toList).toArray⟩) := ⟨_, Lib.hid rfl⟩
      rw [← hR.out] at HR
      have HRF : Hid (R.data.toList = toldR r r.length ++ [10]) := Lib.hid (by rw [hR.out]; exact HM.out.fin)
      obtain ⟨wm, hwm⟩ : ∃ wm, wm = wr := ⟨_, rfl⟩
      have Om : RdS wm eStr (.slice ar nr cr) (r.map w8B) := by rw [hwm]; exact O.rd
      have Fm : Frm No w wm := by rw [hwm]; exact FF
      have RM := Lib.hid Om
      clear O F FF Om
      subst hwm
      by_cases h1 : i < n
      all_goals
        go_wp2_with (fail)
        go_loopg [7, 8] (nr + 1) (fun gg sv iv wr => ∃ (k : Nat) (W : ByteArray), iv = .int .i64 k ∧ sv = .string W ∧ k ≤ nr ∧ gg = nr - k + 1 ∧ Frm No wm wr ∧ Hid (W.data.toList = toldR r k))
        case atStart => exact ⟨0, ⟨#[]⟩, rfl, rfl, Nat.zero_le _, by omega, Frm.refl _ _, Lib.hid rfl⟩
        case round =>
          obtain ⟨k, W, rfl, rfl, hk, hg, F, hW⟩ := hrel
          have hG := Lib.hid hg
          have hWs : W.size ≤ 1000 := by
            have := toldR_len r HRL.out.2 k (by rw [← HNR.out]; exact hk)
            rw [size_eq, hW.out]; omega
          have FF := Fm.trans F
          clear hg
          by_cases hkn : k < nr
          · have l2 : k < r.length := by rw [← HNR.out]; exact hkn
            obtain ⟨b2, off2, rfl, hbb2, hc2⟩ := (RM.out.no F).at (i := k) (by rw [List.length_map]; exact l2)
            have e1 : wr.cell? ⟨b2, off2 + k, none⟩ = some (.string (w8B r[k])) := by
              have := hc2 0 _ rfl
              rw [List.getElem_map] at this
              rwa [show off2 + (k * eStr.k + 0) = off2 + k from by show off2 + (k * 1 + 0) = off2 + k; omega] at this
            have hwz : (w8B r[k]).size ≤ 22 := w8B_sz (HRL.out.2 _ (List.getElem_mem l2))
            have hst := toldR_step r l2
            obtain ⟨y, hy⟩ : ∃ y, Hid (y = w8B r[k]) := ⟨_, Lib.hid rfl⟩
            have hyl : y.data.toList = w8 r[k] := by rw [hy.out]; unfold w8B; simp
            rw [← hy.out] at e1 hwz
            rw [← hyl] at hst
            clear hc2 hyl
            by_cases h0 : k = 0
            · subst h0
              rw [if_pos rfl] at hst
              have HST : Hid ((W ++ y).data.toList = toldR r (0 + 1)) := Lib.hid (by
                rw [hst]
                have : W.data.toList = [] := by rw [hW.out]; rfl
                simp [ByteArray.data_append, this])
              have e2 : wr.cell? ⟨b2, off2, none⟩ = some (.string y) := by simpa using e1
              clear hst
              go_wp2_with (fail)
              go_roundg (nr - (0 + 1) + 1)
              case measure => have := hG.out; omega
              case rel => exact ⟨1, _, by go_num, rfl, by omega, rfl, F, HST⟩
            · rw [if_neg h0] at hst
              have hk0 : (k : Int) > 0 := by omega
              have HST : Hid ((W ++ ⟨#[32]⟩ ++ y).data.toList = toldR r (k + 1)) := Lib.hid (by
                rw [hst, ← hW.out]
                simp [ByteArray.data_append])
              clear hst h0
              go_wp2_with (fail)
              go_roundg (nr - (k + 1) + 1)
              case measure => have := hG.out; omega
              case rel => exact ⟨k + 1, _, by go_num, rfl, by omega, rfl, F, HST⟩
          · obtain rfl : k = nr := by omega
            have hRW : R = W ++ (⟨#[10]⟩ : ByteArray) := data_inj (by rw [HRF.out, ← HNR.out, ← hW.out]; simp [ByteArray.data_append])
            have HRR := HR.out _ FF
            rw [hRW] at HRR
            have HRR := Lib.hid HRR
            clear hRW
            go_wp2_with (fail)
            refine HRR.out.mono ?_
            rintro e w1 ⟨rfl, f1⟩
            go_wp2_with (fail)
            refine (num_ok 0 _).mono ?_
            rintro e w2 ⟨rfl, rfl⟩
            go_wp2_with (fail)
            go_ret
            exact ⟨rfl, FF.trans f1⟩
set_option maxRecDepth 100000 in
theorem consoleLists_row {base : Nat} (w : World) (ht : Tab w) {v0 : Value} (ok0 : Value.okWide Tryz.prog w .any base 33 v0) (h0 : Rd Tryz.prog w 33 v0.cells.toList) : Calls Tryz.prog 7 #[v0] w fun e w' => e = .returned (.bool true) ∧ Below w.heap.size w w' := by
  obtain ⟨a, n, c, l, rfl, hl, hb⟩ := intsR_of ok0 h0
  exact (consoleLists_ok ht hl hb).mono fun e w' ⟨he, f⟩ => ⟨he, f.below (fun _ _ h => h) (Nat.le_refl _)⟩
end Go.Proofs.YtgpdpalhkkjmiaaGreatDoor

/- What every row of this seat's cards uses: the listed tables, a world that holds them. -/
namespace Go.Proofs.YtgpdpalhkkjmiaaGreatDoor
set_option linter.unusedVariables false
set_option linter.unusedSimpArgs false
open Go.ChangeShapes Go.WideShapes Go.ChangeAt Go.RowKit Go.Tt
/-- The seven variables that every row of this seat lists. -/
abbrev tabs : List (String × DataW Unit) := [("math/bits.deBruijn32tab", Rows.laid_math_bits_deBruijn32tab), ("math/bits.deBruijn64tab", Rows.laid_math_bits_deBruijn64tab), ("internal/strconv.uint64pow10", Rows.laid_internal_strconv_uint64pow10), ("unicode/utf8.acceptRanges", Rows.laid_unicode_utf8_acceptRanges), ("strconv.ErrRange", Rows.laid_strconv_ErrRange), ("strconv.ErrSyntax", Rows.laid_strconv_ErrSyntax), ("unicode/utf8.first", Rows.laid_unicode_utf8_first)]
theorem own : ownKnob Tryz.prog.godebug = none := by kernel_rfl
theorem laidOut : laidOutB Tryz.prog = true := by kernel_rfl
theorem gPow : Tryz.prog.globalNamed "internal/strconv.uint64pow10" = some 3 := by kernel_rfl
theorem gPowType : (Tryz.prog.globals[3]?).map (·.type) = some 189 := by kernel_rfl
theorem cellsPow : Tryz.prog.cellsOf 189 = 20 := by kernel_rfl
theorem cellsU64 : Tryz.prog.cellsOf 50 = 1 := by kernel_rfl
theorem powIs : (Rows.laid_internal_strconv_uint64pow10 : DataW Unit) = Lib.tabData .u64 Lib.pow10Tab := by kernel_rfl
/-- WHAT THE ROW's LIST GIVES. -/
theorem table {W : World} (h : laidMetH Tryz.prog tabs W) : Tab W := by
  have h : laidMet Tryz.prog tabs W := h
  obtain ⟨ps, ⟨_, _, _, _, _, _, _, _, _, _, ⟨_, _, _, _, _, _, _, _, _, _, ⟨g', t', cs, fuel, p, q, hg', ht', hvar, hd, _, _⟩, _⟩, _⟩, _⟩ := h
  obtain rfl := Option.some.inj (gPow.symm.trans hg')
  obtain rfl := Option.some.inj (gPowType.symm.trans ht')
  rw [powIs] at hd
  unfold Tab Lib.TabIs
  rw [hvar, ← Lib.cells_of_tab Tryz.underlying189 Tryz.underlying50 cellsU64 cellsPow hd]
/-- The cells of a table. -/
def litCells : DataW Unit → Array Value
  | .agg l => (l.map fun | .lit (.int k z) => Value.int k z | _ => .bool false).toArray
  | _ => #[]
def litCells2 : DataW Unit → Array Value
  | .agg l => (l.flatMap fun d => (litCells d).toList).toArray
  | _ => #[]
def putCells (cs : Array Value) : Obj → Obj
  | .cells _ t frozen => .cells cs t frozen
  | o => o
/-- A WORLD FOR THE WITNESS: the settled one, the variables holding what their initialisers lay. -/
noncomputable def baseWorld (os : Os) : World := World.holding Tryz.prog os ⟨#[.cells #[.string ⟨#[118, 97, 108, 117, 101, 32, 111, 117, 116, 32, 111, 102, 32, 114, 97, 110, 103, 101]⟩] 231, .cells #[.string ⟨#[105, 110, 118, 97, 108, 105, 100, 32, 115, 121, 110, 116, 97, 120]⟩] 231], #[], []⟩
noncomputable def laidWorld (os : Os) : World :=
  { baseWorld os with heap := ((((baseWorld os).heap.modify 3 (putCells (litCells Rows.laid_internal_strconv_uint64pow10))).modify 6 (putCells (litCells Rows.laid_math_bits_deBruijn32tab))).modify 7 (putCells (litCells Rows.laid_math_bits_deBruijn64tab))).modify 5 (putCells #[.iface 229 (.pointer (some ⟨13, 0, none⟩))]) |>.modify 4 (putCells #[.iface 229 (.pointer (some ⟨14, 0, none⟩))]) |>.modify 2 (putCells (litCells2 Rows.laid_unicode_utf8_acceptRanges)) |>.modify 1 (putCells (litCells Rows.laid_unicode_utf8_first)) }
theorem get_parts {α β γ : Type _} (o : Option (α × β × γ)) (h : o.isSome = true) : o = some ((o.get h).1, (o.get h).2.1, (o.get h).2.2) := (Option.some_get h).symm
end Go.Proofs.YtgpdpalhkkjmiaaGreatDoor

/- The top of the console's merged texts. -/
namespace Go.Proofs.YtgpdpalhkkjmiaaGreatDoor
set_option linter.unusedVariables false
set_option linter.unusedSimpArgs false
end Go.Proofs.YtgpdpalhkkjmiaaGreatDoor

/- Merged: Del Lend. -/
import Derived.Shelf.Abstract
import Derived.Test.YtofikfkgiblblaaGreatDoorQ11
import Derived.Test.YtofikfkgiblblaaGreatDoorQ12
import Derived.Test.YtofikfkgiblblaaGreatDoorQ13
/- Sets: slices.Contains at dots, slices.DeleteFunc at entries. -/
namespace Go.Proofs.YtofikfkgiblblaaGreatDoor
set_option linter.unusedVariables false
set_option linter.unusedSimpArgs false
set_option linter.unusedVariables false
set_option linter.unusedSimpArgs false
open Go.RowKit Go.Lib Go.Tt
set_option maxRecDepth 100000 in
theorem indexDot_ok {w : World} {a : Option Addr} {n c : Nat} {l : List Dt} (h : RdS w eDt (.slice a n c) l) (d : Dt) :
    Calls Tryz.prog 139 #[.slice a n c, .agg #[.int .i64 d.1, .int .i64 d.2]] w fun e w' => ∃ z : Int, e = .returned (.int .i64 z) ∧ (0 ≤ z ↔ d ∈ l) ∧ Frm No w w' := by
  obtain ⟨hn, hc1, hc2, -⟩ := h.facts
  unfold maxLen at hc2
  have HN := Lib.hid hn
  clear hn
  go_enter Tryz.func139, Tryz.ntmps139
  go_wp2
  go_loopg [5, 8] (n + 1) (fun g _ iv wr => ∃ (i m : Nat), iv = .int .i64 i ∧ wr = (w.alloc (.cells #[.int .i64 d.1, .int .i64 d.2] 32)).drewN m ∧ i ≤ n ∧ g = n - i + 1 ∧ d ∉ l.take i)
  case atStart => exact ⟨0, 0, rfl, rfl, Nat.zero_le _, by omega, by simp⟩
  case round =>
    obtain ⟨i, m, rfl, rfl, hi, hg, hp⟩ := hrel
    have hG := Lib.hid hg
    have hP := Lib.hid hp
    clear hg hp
    by_cases hlt : i < n
    · have l1 : i < l.length := by rw [← HN.out]; exact hlt
      obtain ⟨b, off, rfl, hb, hc⟩ := h.at l1
      have e0 : w.cell? ⟨b, off + i * 2, none⟩ = some (.int .i64 l[i].1) := hc 0 _ rfl
      have e1 : w.cell? ⟨b, off + i * 2 + 1, none⟩ = some (.int .i64 l[i].2) := hc 1 _ rfl
      clear hc h
      obtain ⟨x, hx⟩ : ∃ x, Hid (x = l[i]) := ⟨_, Lib.hid rfl⟩
      rw [← hx.out] at e0 e1
      have hcs : (x = d ∧ x.1 = d.1 ∧ x.2 = d.2) ∨ (x ≠ d ∧ x.1 = d.1 ∧ ¬ d.2 = x.2) ∨ (x ≠ d ∧ ¬ d.1 = x.1) := by
        by_cases h1 : x.1 = d.1
        · by_cases h2 : x.2 = d.2
          · exact .inl ⟨Prod.ext h1 h2, h1, h2⟩
          · exact .inr (.inl ⟨fun e => h2 (by rw [e]), h1, fun e => h2 e.symm⟩)
        · exact .inr (.inr ⟨fun e => h1 (by rw [e]), fun e => h1 e.symm⟩)
      rcases hcs with ⟨hxd, h1, h2⟩ | ⟨hxd, h1, h2⟩ | ⟨hxd, h1⟩
      · rw [h1] at e0
        rw [h2] at e1
        have HX := Lib.hid hxd
        clear hxd h1 h2
        go_wp2
        refine wp_region_plan [([0, 1, 2, 3, 4, 5], [])] 19 (by kernel_rfl) (by kernel_rfl) (by simp) ?_
        intro N hN
        simp only [wpSegs, List.map_cons, List.map_nil, List.getD_cons_zero, List.getD_cons_succ]
        go_wp2
        go_ret
        have hd : d ∈ l := by rw [← HX.out, hx.out]; exact List.getElem_mem l1
        exact ⟨(i : Int), rfl, ⟨fun _ => hd, fun _ => by omega⟩, ((Frm.refl No w).al _).dr _⟩
      · rw [h1] at e0
        have HX := Lib.hid hxd
        clear hxd h1
        go_wp2
        refine wp_region_plan [([0, 1, 2, 3, 4, 5], [])] 19 (by kernel_rfl) (by kernel_rfl) (by simp) ?_
        intro N hN
        simp only [wpSegs, List.map_cons, List.map_nil, List.getD_cons_zero, List.getD_cons_succ]
        go_wp2
        go_roundg (n - (i + 1) + 1)
        case measure => have := hG.out; omega
        case rel => exact ⟨i + 1, _, by go_num, rfl, by omega, rfl, mem_step l1 hP.out hx HX.out⟩
      · have HX := Lib.hid hxd
        clear hxd
        go_wp2
        refine wp_region_plan [([0, 1, 2, 3, 4, 5], [])] 19 (by kernel_rfl) (by kernel_rfl) (by simp) ?_
        intro N hN
        simp only [wpSegs, List.map_cons, List.map_nil, List.getD_cons_zero, List.getD_cons_succ]
        go_wp2
        go_roundg (n - (i + 1) + 1)
        case measure => have := hG.out; omega
        case rel => exact ⟨i + 1, _, by go_num, rfl, by omega, rfl, mem_step l1 hP.out hx HX.out⟩
    · have hii : ¬ ((i : Int) < n) := by omega
      go_wp2
      go_ret
      have hP := hP.out
      rw [List.take_of_length_le (by have := HN.out; omega)] at hP
      exact ⟨-1, rfl, ⟨fun h => by omega, fun h => absurd h hP⟩, ((Frm.refl No w).al _).dr _⟩
set_option maxRecDepth 100000 in
theorem containsDot_ok {w : World} {a : Option Addr} {n c : Nat} {l : List Dt} (h : RdS w eDt (.slice a n c) l) (d : Dt) :
    Calls Tryz.prog 114 #[.slice a n c, .agg #[.int .i64 d.1, .int .i64 d.2]] w fun e w' => e = .returned (.bool (decide (d ∈ l))) ∧ Frm No w w' := by
  have hc := fun W (f : Frm No w W) => indexDot_ok (h.no f) d
  clear h
  go_enter Tryz.func114, Tryz.ntmps114
  go_wp2_with (fail)
  refine (hc _ ((Frm.refl No w).al _)).mono ?_
  rintro e w1 ⟨z, rfl, hz, f1⟩
  have hZ := Lib.hid hz
  clear hz hc
  go_wp2
  all_goals go_ret
  all_goals refine ⟨congrArg (fun b => Ending.returned (Value.bool b)) ?_, ((Frm.refl No w).al _).trans f1⟩
  all_goals first
    | exact decide_eq_decide.2 hZ.out
    | exact dec_t (hZ.out.1 (by omega))
    | exact dec_f fun h => by have := hZ.out.2 h; omega
set_option maxRecDepth 100000 in
theorem drop1_ok {w : World} {B : Nat} {a : Option Addr} {n c : Nat} {ds : List Dt} (hd : RdS w eDt (.slice a n c) ds) (hB : w.heap[B]? = some (.cells #[.slice a n c] 33 (0, 0))) (x : En) :
    Calls Tryz.prog 113 #[.agg #[.int .i64 x.1, .int .i64 x.2.1, .string x.2.2], .pointer (some ⟨B, 0, none⟩)] w fun e w' => e = .returned (.bool (decide ((x.1, x.2.1) ∈ ds))) ∧ Frm No w w' := by
  have d0 : w.cell? ⟨B, 0, none⟩ = some (.slice a n c) := obj_cell hB 0
  have hlt := lt_of_block hB
  have hc := fun W (f : Frm No w W) => containsDot_ok (hd.no f) (x.1, x.2.1)
  clear hd
  obtain ⟨r, hr⟩ : ∃ r, Hid (r = decide ((x.1, x.2.1) ∈ ds)) := ⟨_, Lib.hid rfl⟩
  rw [← hr.out] at hc ⊢
  go_enter Tryz.func113, Tryz.ntmps113
  go_wp2_with (fail)
  refine (hc _ ((Frm.refl No w).al _)).mono ?_
  rintro e w1 ⟨rfl, f1⟩
  clear hc
  go_wp2
  go_ret
  exact ⟨rfl, ((Frm.refl No w).al _).trans f1⟩
/-- A function value that tells p of an entry, whatever the footprint F bears. -/
def PredF (F : Nat → Prop) (w : World) (g : Nat) (lb : Array Value) (p : En → Bool) : Prop :=
  ∀ (W : World) (x : En), Frm F w W → Calls Tryz.prog g (#[.agg #[.int .i64 x.1, .int .i64 x.2.1, .string x.2.2]] ++ lb) W fun e w' => e = .returned (.bool (p x)) ∧ Frm No W w'
theorem filter_step {l : List En} {p : En → Bool} {i : Nat} {x : En} (h : i < l.length) (hx : Hid (x = l[i])) : (l.take (i + 1)).filter p = (l.take i).filter p ++ if p x then [x] else [] := by
  rw [List.take_succ_eq_append_getElem h, ← hx.out, List.filter_append]
  by_cases hv : p x = true <;> simp [hv]
/-- What stays behind the first that goes. -/
theorem filter_first {l : List En} {p : En → Bool} (h : l.findIdx p < l.length) : (l.take (l.findIdx p + 1)).filter (fun x => !p x) = l.take (l.findIdx p) := by
  have hx : Hid (l[l.findIdx p] = l[l.findIdx p]) := Lib.hid rfl
  rw [filter_step h hx, List.findIdx_getElem (w := h)]
  simp only [Bool.not_true, Bool.false_eq_true, if_false, List.append_nil]
  rw [List.filter_eq_self]
  intro x hx
  obtain ⟨j, hj, rfl⟩ := List.getElem_of_mem hx
  rw [List.length_take] at hj
  rw [List.getElem_take]
  have := List.not_of_lt_findIdx (p := p) (xs := l) (i := j) (by omega)
  simpa using this
theorem idxF_none {l : List En} {p : En → Bool} (h : ¬ l.findIdx p < l.length) : l.filter (fun x => !p x) = l := by
  rw [List.filter_eq_self]
  intro x hx
  have h' : ¬ ∃ x ∈ l, p x = true := fun e => h (List.findIdx_lt_length.2 e)
  cases hq : p x with
  | true => exact absurd ⟨x, hx, hq⟩ h'
  | false => rfl
set_option maxHeartbeats 1000000 in
set_option maxRecDepth 100000 in
theorem delFunc_ok {w : World} {F : Nat → Prop} {a : Option Addr} {n c : Nat} {l : List En} (h : Ow w F 62 eEn (.slice a n c) l) {g : Nat} {lb : Array Value} {p : En → Bool} (hp : PredF F w g lb p)
    (eg : ∀ args w, (callFunc g args).run Tryz.prog w = .ok (.enter g args) w) :
    Calls Tryz.prog 112 #[.slice a n c, .func (.func g) #[] lb] w fun e w' => ∃ n', e = .returned (.slice a n' c) ∧ Ow w' F 62 eEn (.slice a n' c) (l.filter fun x => !p x) ∧ Frm F w w' := by
  have HI := indexFunc_ok h.rd (p := p) (g := g) (lb := lb) (fun W x f => hp W x (f.mono fun _ _ h => h.elim)) eg
  obtain ⟨hn, hnc, hcm, -⟩ := h.rd.facts
  unfold maxLen at hcm
  have HP := Lib.hid hp
  clear hp
  by_cases hfi : l.findIdx p < l.length
  · obtain ⟨b, row, rfl, hB, hF, -, -, -, hrs, htk⟩ := h.cases (by omega)
    have hq : idxF l p = (l.findIdx p : Int) := by unfold idxF; rw [if_pos hfi]
    have HFF := Lib.hid (filter_first hfi)
    rw [hq] at HI
    obtain ⟨k, hk⟩ : ∃ k, Hid (k = l.findIdx p) := ⟨_, Lib.hid rfl⟩
    rw [← hk.out] at HI hfi HFF
    have hkn : k < n := by omega
    have HN := Lib.hid hn
    have HT := Lib.hid htk
    have hRow : row.size = c * 3 := hrs
    clear hq htk hrs hn
    go_enter Tryz.func112, Tryz.ntmps112
    go_wp2_with (fail)
    refine HI.mono ?_
    rintro e w1 ⟨rfl, f1⟩
    have B1 := f1.obj hB id
    clear HI
    go_wp2
    go_loopg [5, 6] (n - (k + 1) + 1) (fun gg iv jv wr => ∃ (i j : Nat) (row : Array Value), iv = .int .i64 i ∧ jv = .int .i64 j ∧ i < j ∧ j ≤ n ∧ gg = n - j + 1 ∧ Frm F w wr ∧
      wr.heap[b]? = some (.cells row 62 (0, 0)) ∧ row.size = c * 3 ∧ ((l.take j).filter fun x => !p x).length = i ∧ row.toList.take (i * 3) = eEn.flat ((l.take j).filter fun x => !p x) ∧
      ∀ m, j * 3 ≤ m → m < n * 3 → row.toList[m]? = (eEn.flat l)[m]?)
    case atStart =>
      refine ⟨k, k + 1, row, rfl, by go_num, by omega, by omega, rfl, f1.mono fun _ _ h => h.elim, B1, hRow, ?_, ?_, ?_⟩
      · rw [HFF.out, List.length_take]; omega
      · rw [HFF.out, ← eEn.flat_take, ← HT.out, List.take_take, Nat.min_eq_left (Nat.mul_le_mul_right _ (by omega))]; rfl
      · intro m _ hm
        rw [← HT.out, List.getElem?_take, if_pos (by rw [← HN.out]; exact hm)]
    case round =>
      clear B1 f1
      obtain ⟨i, j, row', rfl, rfl, hij, hjn, hg, f, B, hr', h1, h2, h3⟩ := hrel
      have hG := Lib.hid hg
      have H1 := Lib.hid h1
      have H2 := Lib.hid h2
      have H3 := Lib.hid h3
      have n1 := lt_of_block B
      clear hg h1 h2 h3
      by_cases hlt : j < n
      · have l1 : j < l.length := by rw [← HN.out]; exact hlt
        have hc : ∀ r u, (eEn.f l[j])[r]? = some u → wr.cell? ⟨b, j * 3 + r, none⟩ = some u := by
          intro r u hu
          have hr : r < 3 := by have := (List.getElem?_eq_some_iff.1 hu).1; rwa [eEn.len] at this
          rw [obj_cell B, ← Array.getElem?_toList, H3.out _ (by omega) (by omega)]
          exact (eEn.flat_get l1 hr).trans hu
        have e0 : wr.cell? ⟨b, j * 3, none⟩ = some (.int .i64 l[j].1) := hc 0 _ rfl
        have e1 : wr.cell? ⟨b, j * 3 + 1, none⟩ = some (.int .i64 l[j].2.1) := hc 1 _ rfl
        have e2 : wr.cell? ⟨b, j * 3 + 2, none⟩ = some (.string l[j].2.2) := hc 2 _ rfl
        clear hc
        obtain ⟨x, hx⟩ : ∃ x, Hid (x = l[j]) := ⟨_, Lib.hid rfl⟩
        rw [← hx.out] at e0 e1 e2
        have hst := filter_step (p := fun x => !p x) l1 hx
        have hcall := fun W (f : Frm F w W) => HP.out W x f
        cases hq : p x with
        | true =>
          simp only [hq] at hcall hst
          have HST := Lib.hid hst
          clear hst hq
          go_wp2_with (fail)
          refine (hcall _ ?_).mono ?_
          · exact f.al _
          rintro e w2 ⟨rfl, f2⟩
          have F2 : Frm F w w2 := (f.al _).then f2 fun _ _ h => h.elim
          have B2 := f2.obj (al_old B) id
          clear hcall e0 e1 e2
          go_wp2
          go_roundg (n - (j + 1) + 1)
          case measure => have := hG.out; omega
          case rel =>
            have hs := HST.out
            simp only [Bool.not_true, Bool.false_eq_true, if_false, List.append_nil] at hs
            exact ⟨i, j + 1, row', rfl, by go_num, by omega, by omega, rfl, F2, B2, hr', by rw [hs]; exact H1.out, by rw [hs]; exact H2.out, fun m h1 h2 => H3.out m (by omega) h2⟩
        | false =>
          simp only [hq] at hcall hst
          have HST := Lib.hid hst
          clear hst hq
          go_wp2_with (fail)
          refine (hcall _ ?_).mono ?_
          · exact f.al _
          rintro e w2 ⟨rfl, f2⟩
          have F2 : Frm F w w2 := (f.al _).then f2 fun _ _ h => h.elim
          have B2 := f2.obj (al_old B) id
          have V2 : w2.heap[wr.heap.size]? = some (.cells #[.int .i64 x.1, .int .i64 x.2.1, .string x.2.2] 62 (0, 0)) := f2.obj (heap_alloc_new wr _) id
          have v0 : w2.cell? ⟨wr.heap.size, 0, none⟩ = some (.int .i64 x.1) := obj_cell V2 0
          have v1 : w2.cell? ⟨wr.heap.size, 1, none⟩ = some (.int .i64 x.2.1) := obj_cell V2 1
          have v2 : w2.cell? ⟨wr.heap.size, 2, none⟩ = some (.string x.2.2) := obj_cell V2 2
          have hfit : (i + 1) * 3 ≤ row'.toList.length := by rw [show row'.toList.length = row'.size from Array.length_toList]; omega
          have HA := Lib.hid (row_app (E := eEn) (x := x) H1.out H2.out hfit)
          have HI := Lib.hid hfit
          clear hcall e0 e1 e2 hfit
          go_wp2_with (refine wpList_stoAt _ rfl (.tmp 33) (.tmp 32) 62 rfl B2 (vs := [.int .i64 x.1, .int .i64 x.2.1, .string x.2.2]) (by kernel_rfl) ?d1 (eEn.one x) rfl rfl ?_)
          case d1 => show i * 3 + 3 ≤ row'.size; omega
          intro w3 B3 f3 z3
          have F3 : Frm F w w3 := F2.trans (f3.mono fun k _ e => e ▸ hF)
          clear v0 v1 v2
          go_wp2
          go_roundg (n - (j + 1) + 1)
          case measure => have := hG.out; omega
          case rel =>
            have hs := HST.out
            simp only [Bool.not_false, if_true] at hs
            refine ⟨i + 1, j + 1, _, by go_num, by go_num, by omega, by omega, rfl, F3, B3, ?_, by rw [hs, List.length_append, H1.out]; rfl, by rw [hs]; exact HA.out.1, fun m h1 h2 => ?_⟩
            · rw [List.size_toArray, rowPut_len _ _ _ (by show i * 3 + 3 ≤ _; have := HI.out; omega), show row'.toList.length = row'.size from Array.length_toList]; exact hr'
            · exact (HA.out.2 m (by show (i + 1) * 3 ≤ m; omega)).trans (H3.out m (by omega) h2)
      · have hjj : ¬ ((j : Int) < n) := by omega
        obtain rfl : j = n := by omega
        have hci : ¬ (c = i) := by omega
        have hb3 : (i : Int) ≤ (j : Int) := by omega
        have hzs : (Builtin.zeroCells (Value.agg #[.int .i64 0, .int .i64 0, .string ByteArray.empty]).cells (j - i)).size = (j - i) * 3 := size_zeroCells _ _
        have hone : ∀ v ∈ (Builtin.zeroCells (Value.agg #[.int .i64 0, .int .i64 0, .string ByteArray.empty]).cells (j - i)).toList, v.oneCell' = true := by
          intro v hv
          simp only [Builtin.zeroCells, Array.toList_map, List.mem_map] at hv
          obtain ⟨m, -, rfl⟩ := hv
          have h3 : m % (Value.agg #[.int .i64 0, .int .i64 0, .string ByteArray.empty]).cells.size < 3 := Nat.mod_lt _ (by decide)
          generalize m % (Value.agg #[.int .i64 0, .int .i64 0, .string ByteArray.empty]).cells.size = q at h3
          match q, h3 with
          | 0, _ => rfl
          | 1, _ => rfl
          | 2, _ => rfl
        have HO := Lib.hid hone
        have HZ := Lib.hid hzs
        clear hzs hone
        go_wp2_with (refine wpList_clr _ rfl (.tmp 38) 26 62 rfl Tryz.underlying26 Tryz.zeroValue62 HO.out (by omega) B ?d1 rfl ?_)
        case d1 =>
          have h := HZ.out
          simp only [Value.cells] at h
          have e : (ByteArray.empty) = { data := #[] } := rfl
          rw [e] at h
          rw [h]; omega
        intro w3 B3 f3 z3
        have F3 : Frm F w w3 := f.trans (f3.mono fun k _ e => e ▸ hF)
        go_wp2
        go_ret
        have hl : l.take j = l := List.take_of_length_le (by have := HN.out; omega)
        have h1 := H1.out
        have h2 := H2.out
        rw [hl] at h1 h2
        have hfit : i * 3 + (Builtin.zeroCells (Value.agg #[.int .i64 0, .int .i64 0, .string ByteArray.empty]).cells (j - i)).toList.length ≤ row'.toList.length := by
          rw [Array.length_toList, HZ.out, show row'.toList.length = row'.size from Array.length_toList]; omega
        have o3 : Ow w3 F 62 eEn (.slice (some ⟨b, 0, none⟩) (l.filter fun x => !p x).length c) (l.filter fun x => !p x) :=
          Ow.row B3 hF (by omega) (by unfold maxLen; omega) (by
            rw [List.size_toArray]
            exact (rowPut_len _ _ _ hfit).trans ((show row'.toList.length = row'.size from Array.length_toList).trans hr')) (by
            rw [h1, ← h2]
            exact row_keep hfit (Nat.le_refl _))
        rw [h1] at o3
        exact ⟨i, rfl, o3, F3⟩
  · have hq : idxF l p = -1 := by unfold idxF; rw [if_neg hfi]
    have HFF := Lib.hid (idxF_none hfi)
    rw [hq] at HI
    clear hq hfi hn hnc hcm
    go_enter Tryz.func112, Tryz.ntmps112
    go_wp2_with (fail)
    refine HI.mono ?_
    rintro e w1 ⟨rfl, f1⟩
    go_wp2
    go_ret
    rw [HFF.out]
    exact ⟨n, rfl, h.no f1, f1.mono fun _ _ h => h.elim⟩
end Go.Proofs.YtofikfkgiblblaaGreatDoor

/- Dots lent in a place with marked room behind them; spoilt; kept. -/
namespace Go.Proofs.YtofikfkgiblblaaGreatDoor
set_option linter.unusedVariables false
set_option linter.unusedSimpArgs false
open Go.RowKit Go.Lib Go.Tt
/-- A literal of some elements. -/
theorem RdS_lits {α : Type} (w : World) (E : Enc α) (l : List α) (t : TypeId) {g n : Nat} (hg : g = w.heap.size) (hn : n = l.length) (hm : l.length ≤ maxLen) : RdS (w.alloc (.cells (E.flat l).toArray t)) E (.slice (some ⟨g, 0, none⟩) n n) l := by
  subst hg hn
  refine ⟨_, l.length, rfl, Nat.le_refl _, hm, (by intro h; cases h), fun _ => ⟨w.heap.size, 0, rfl, fun m u hu => ?_⟩⟩
  rw [Nat.zero_add, World.cell?_alloc_new]
  simpa using hu
def mark : Dt := (0, 77777)
/-- The first elements of a slice that reads, its capacity kept. -/
theorem RdS_pre {α : Type} {w : World} {E : Enc α} {a : Option Addr} {m n c : Nat} {l l2 : List α} (h : RdS w E (.slice a m c) (l ++ l2)) (hn : n = l.length) : RdS w E (.slice a n c) l := by
  obtain ⟨a', c', h1, h2, h3, h4, h5⟩ := h
  simp only [Value.slice.injEq] at h1
  obtain ⟨rfl, rfl, rfl⟩ := h1
  rw [List.length_append] at h2 h4 h5
  subst hn
  refine ⟨_, _, rfl, by omega, h3, fun e => ⟨by have := (h4 e).1; omega, (h4 e).2⟩, fun hl => ?_⟩
  obtain ⟨b, off, ha, hc⟩ := h5 (by omega)
  refine ⟨b, off, ha, fun m u hu => hc m u ?_⟩
  rw [E.flat_append, List.getElem?_append_left (List.getElem?_eq_some_iff.1 hu).1]
  exact hu
end Go.Proofs.YtofikfkgiblblaaGreatDoor

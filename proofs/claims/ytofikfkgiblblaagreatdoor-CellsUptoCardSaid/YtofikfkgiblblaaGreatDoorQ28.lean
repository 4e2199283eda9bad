/- Merged: OpM1 OpM2. -/
import Derived.Test.YtofikfkgiblblaaGreatDoorQ12
import Derived.Test.YtofikfkgiblblaaGreatDoorQ18
import Derived.Test.YtofikfkgiblblaaGreatDoorQ27
/- Layer 11: names, ids, numbers, dots that are dropped. -/
namespace Go.Proofs.YtofikfkgiblblaaGreatDoor
set_option linter.unusedVariables false
set_option linter.unusedSimpArgs false
set_option linter.unusedVariables false
set_option linter.unusedSimpArgs false
open Go.RowKit Go.Lib Go.Tt
def firstB (x : Int) : Bool := decide (97 ≤ x ∧ x ≤ 122 ∨ 65 ≤ x ∧ x ≤ 90 ∨ x = 95)
def digB (x : Int) : Bool := decide (48 ≤ x ∧ x ≤ 57)
theorem first_ok (x : Int) (w : World) : Calls Tryz.prog 100 #[.int .u8 x] w fun e w' => e = .returned (.bool (firstB x)) ∧ w = w' := by
  obtain ⟨B, hB⟩ : ∃ B : Bool, Hid (B = firstB x) := ⟨_, Lib.hid rfl⟩
  rw [← hB.out]
  go_enter Tryz.func100, Tryz.ntmps100
  go_wp2
  all_goals go_ret
  all_goals refine ⟨congrArg (fun b => Ending.returned (Value.bool b)) ?_, rfl⟩
  all_goals rw [hB.out]
  all_goals unfold firstB
  all_goals first | exact dec_f (by omega) | exact dec_t (by omega) | exact dec_d (by omega) | (simp; omega) | (rw [Bool.eq_iff_iff]; simp; omega)
theorem digit_ok (x : Int) (w : World) : Calls Tryz.prog 101 #[.int .u8 x] w fun e w' => e = .returned (.bool (digB x)) ∧ w = w' := by
  obtain ⟨B, hB⟩ : ∃ B : Bool, Hid (B = digB x) := ⟨_, Lib.hid rfl⟩
  rw [← hB.out]
  go_enter Tryz.func101, Tryz.ntmps101
  go_wp2
  all_goals go_ret
  all_goals refine ⟨congrArg (fun b => Ending.returned (Value.bool b)) ?_, rfl⟩
  all_goals rw [hB.out]
  all_goals unfold digB
  all_goals first | exact dec_f (by omega) | exact dec_t (by omega) | exact dec_d (by omega) | (simp; omega) | (rw [Bool.eq_iff_iff]; simp; omega)
/-- Is a text a name? -/
def nameMay (s : ByteArray) : Bool := decide ((0 < s.size ∧ s.size ≤ 32 ∧ firstB (s.data.toList.getD 0 0).toNat = true) ∧ ∀ i, i < s.data.toList.length → (firstB (s.data.toList.getD i 0).toNat = true ∨ digB (s.data.toList.getD i 0).toNat = true))
theorem bget (s : ByteArray) {i : Nat} (h : i < s.size) : s.data.toList.getD i 0 = s[i] := by
  have h' : i < s.data.toList.length := by simpa using h
  simp [List.getD, List.getElem?_eq_getElem h']
  rfl
set_option maxRecDepth 100000 in
theorem name_ok (s : ByteArray) (w : World) (hs : s.size ≤ 9223372036854775807) : Calls Tryz.prog 62 #[.string s] w fun e w' => e = .returned (.bool (nameMay s)) ∧ w = w' := by
  obtain ⟨B, hB⟩ : ∃ B : Bool, Hid (B = nameMay s) := ⟨_, Lib.hid rfl⟩
  rw [← hB.out]
  by_cases h0 : s.size = 0
  · have e : s = ⟨#[]⟩ := by
      have : s.data = #[] := Array.eq_empty_of_size_eq_zero h0
      exact ByteArray.ext this
    have hv : B = false := by rw [hB.out]; exact decide_eq_false fun h => by have := h.1.1; omega
    rw [hv]
    clear hB hv h0 hs
    subst e
    go_enter Tryz.func62, Tryz.ntmps62
    go_wp2_with (fail)
    go_ret
    exact ⟨rfl, rfl⟩
  have hpos : 0 < s.size := by omega
  have hne : (s.toList.isEmpty) = false := by
    rw [ByteArray.toList_eq]
    cases h : s.data.toList with
    | nil => have : s.data.toList.length = 0 := by rw [h]; rfl
             have e : s.data.toList.length = s.size := Array.length_toList
             omega
    | cons a b => rfl
  clear h0
  go_enter Tryz.func62, Tryz.ntmps62
  by_cases h32 : s.size ≤ 32
  case neg =>
    have hv : B = false := by rw [hB.out]; exact decide_eq_false fun h => h32 h.1.2.1
    have h33 : 32 < s.size := by omega
    go_wp2_with (fail)
    go_ret
    exact ⟨rfl, rfl⟩
  rcases hf : firstB (s[0].toNat) with _ | _
  · have hv : Hid (B = false) := Lib.hid (by rw [hB.out]; exact decide_eq_false fun h => by have := h.1.2.2; rw [bget s hpos, hf] at this; cases this)
    have h33 : ¬ 32 < s.size := by omega
    go_wp2_with (go_at_call 100; refine (first_ok _ _).mono ?_; rintro e w' ⟨rfl, rfl⟩)
    go_ret
    exact ⟨congrArg (fun b => Ending.returned (Value.bool b)) hv.out.symm, rfl⟩
  · have h33 : ¬ 32 < s.size := by omega
    have HF := Lib.hid hf
    go_wp2_with (go_at_call 100; refine (first_ok _ _).mono ?_; rintro e w' ⟨rfl, rfl⟩)
    clear hf
    go_loopg [19] (s.size + 1) (fun g iv wr => ∃ i : Nat, iv = .int .i64 i ∧ wr = w ∧ i ≤ s.size ∧ g = s.size - i + 1 ∧ ∀ j, j < i → (firstB (s.data.toList.getD j 0).toNat = true ∨ digB (s.data.toList.getD j 0).toNat = true))
    case atStart => exact ⟨0, rfl, rfl, Nat.zero_le _, by omega, fun j hj => by omega⟩
    case round =>
      obtain ⟨i, rfl, rfl, hi, hg, hp⟩ := hrel
      have hG := Lib.hid hg
      have hP := Lib.hid hp
      clear hg hp
      by_cases hlt : i < s.size
      · have hl : i < s.data.toList.length := by simpa using hlt
        have hgd := bget s hlt
        have HGD := Lib.hid hgd
        clear hgd
        obtain ⟨P, hPd⟩ : ∃ P : Int → Bool, Hid (P = firstB) := ⟨_, Lib.hid rfl⟩
        obtain ⟨D, hDd⟩ : ∃ D : Int → Bool, Hid (D = digB) := ⟨_, Lib.hid rfl⟩
        have c1 := fun x W => first_ok x W
        have c2 := fun x W => digit_ok x W
        rw [← hPd.out] at c1
        rw [← hDd.out] at c2
        rcases hf : P (s[i].toNat) with _ | _
        · rcases hd : D (s[i].toNat) with _ | _
          · have hv : Hid (B = false) := Lib.hid (by
              rw [hB.out]
              refine decide_eq_false fun h => ?_
              have := h.2 i hl
              rw [HGD.out, ← hPd.out, ← hDd.out, hf, hd] at this
              rcases this with h | h <;> cases h)
            go_wp2_with (first | (go_at_call 100; refine (c1 _ _).mono ?_; rintro e w' ⟨rfl, rfl⟩) | (go_at_call 101; refine (c2 _ _).mono ?_; rintro e w' ⟨rfl, rfl⟩))
            go_ret
            exact ⟨congrArg (fun b => Ending.returned (Value.bool b)) hv.out.symm, rfl⟩
          · go_wp2_with (first | (go_at_call 100; refine (c1 _ _).mono ?_; rintro e w' ⟨rfl, rfl⟩) | (go_at_call 101; refine (c2 _ _).mono ?_; rintro e w' ⟨rfl, rfl⟩))
            go_roundg (s.size - (i + 1) + 1)
            case measure => have := hG.out; omega
            case rel =>
              refine ⟨i + 1, by go_num, rfl, by omega, rfl, fun j hj => ?_⟩
              rcases Nat.lt_or_ge j i with h | h
              · exact hP.out j h
              · obtain rfl : j = i := by omega
                rw [HGD.out, ← hDd.out]
                exact .inr hd
        · go_wp2_with (first | (go_at_call 100; refine (c1 _ _).mono ?_; rintro e w' ⟨rfl, rfl⟩) | (go_at_call 101; refine (c2 _ _).mono ?_; rintro e w' ⟨rfl, rfl⟩))
          go_roundg (s.size - (i + 1) + 1)
          case measure => have := hG.out; omega
          case rel =>
            refine ⟨i + 1, by go_num, rfl, by omega, rfl, fun j hj => ?_⟩
            rcases Nat.lt_or_ge j i with h | h
            · exact hP.out j h
            · obtain rfl : j = i := by omega
              rw [HGD.out, ← hPd.out]
              exact .inl hf
      · have hii : ¬ ((i : Int) < s.size) := by omega
        have hv : Hid (B = true) := Lib.hid (by
          rw [hB.out]
          refine decide_eq_true ⟨⟨hpos, h32, by rw [bget s hpos]; exact HF.out⟩, fun j hj => hP.out j ?_⟩
          have : s.data.toList.length = s.size := Array.length_toList
          omega)
        go_wp2_with (fail)
        go_ret
        exact ⟨congrArg (fun b => Ending.returned (Value.bool b)) hv.out.symm, rfl⟩
def idMay (s : ByteArray) : Bool := decide (0 < s.size ∧ s.size ≤ 256)
theorem id_ok (s : ByteArray) (w : World) (hs : s.size ≤ 9223372036854775807) : Calls Tryz.prog 63 #[.string s] w fun e w' => e = .returned (.bool (idMay s)) ∧ w = w' := by
  obtain ⟨B, hB⟩ : ∃ B : Bool, Hid (B = idMay s) := ⟨_, Lib.hid rfl⟩
  rw [← hB.out]
  by_cases h0 : s.size = 0
  · have e : s = ⟨#[]⟩ := by
      have : s.data = #[] := Array.eq_empty_of_size_eq_zero h0
      exact ByteArray.ext this
    have hv : B = false := by rw [hB.out]; exact decide_eq_false fun h => by omega
    rw [hv]
    clear hB hv h0 hs
    subst e
    go_enter Tryz.func63, Tryz.ntmps63
    go_wp2_with (fail)
    go_ret
    exact ⟨rfl, rfl⟩
  have hne : (s.toList.isEmpty) = false := by
    rw [ByteArray.toList_eq]
    cases h : s.data.toList with
    | nil => have : s.data.toList.length = 0 := by rw [h]; rfl
             have e : s.data.toList.length = s.size := Array.length_toList
             omega
    | cons a b => rfl
  have hpos : 0 < s.size := by omega
  clear h0
  go_enter Tryz.func63, Tryz.ntmps63
  go_wp2_with (fail)
  all_goals go_ret
  all_goals refine ⟨congrArg (fun b => Ending.returned (Value.bool b)) ?_, rfl⟩
  all_goals rw [hB.out]
  all_goals unfold idMay
  all_goals first | exact dec_f (by omega) | exact dec_t (by omega) | exact dec_d (by omega) | (simp; omega) | (rw [Bool.eq_iff_iff]; simp; omega)
/-- May a number be that is added? -/
def numMay (p : Int × Int) : Bool := decide ((-1099511627776 ≤ p.1 ∧ p.1 ≤ 1099511627776) ∧ -1099511627776 ≤ p.2 ∧ p.2 ≤ 1099511627776)
set_option maxRecDepth 100000 in
theorem opNum_ok (p : Int × Int) (w : World) : Calls Tryz.prog 102 #[.agg #[.int .i64 p.1, .int .i64 p.2]] w fun e w' => e = .returned (.bool (numMay p)) ∧ Frm No w w' := by
  obtain ⟨B, hB⟩ : ∃ B : Bool, Hid (B = numMay p) := ⟨_, Lib.hid rfl⟩
  rw [← hB.out]
  go_enter Tryz.func102, Tryz.ntmps102
  go_wp2_with (fail)
  all_goals go_ret
  all_goals refine ⟨congrArg (fun b => Ending.returned (Value.bool b)) ?_, (Frm.refl No w).al _⟩
  all_goals rw [hB.out]
  all_goals unfold numMay
  all_goals first | exact dec_f (by omega) | exact dec_t (by omega) | exact dec_d (by omega) | (simp; omega) | (rw [Bool.eq_iff_iff]; simp; omega)
end Go.Proofs.YtofikfkgiblblaaGreatDoor

/- Layer 11: may dots be dropped; operations as values; of which kind a cell is that an operation is for. -/
namespace Go.Proofs.YtofikfkgiblblaaGreatDoor
set_option linter.unusedVariables false
set_option linter.unusedSimpArgs false
open Go.RowKit Go.Lib Go.Tt
theorem again_off {P : Program} {ops : Array Oper} {k : Nat} {o : Oper} {a : Act} {w : World} (hk : ops[k]? = some o) (h : Region.wanted o (yielded ops a.tmps) = false) : Again P ops k a w := by
  intro o' d' hk' _ hw
  rw [hk] at hk'
  obtain rfl := Option.some.inj hk'
  rw [h] at hw
  cases hw
/-- The first k dots are had, in their row. -/
def dotsRow (deps : List Int) (ds : List Dt) (k : Nat) : Prop := ∀ j, j < k → vHas deps (ds.getD j (0, 0)) = true ∧ (0 < j → dotLess (ds.getD (j - 1) (0, 0)) (ds.getD j (0, 0)) = true)
instance (deps : List Int) (ds : List Dt) (k : Nat) : Decidable (dotsRow deps ds k) := by unfold dotsRow; infer_instance
def dotsMay (ds : List Dt) (deps : List Int) : Bool := decide (dotsRow deps ds ds.length ∧ ds.length ≤ 64)
theorem cmp_less (a b : Dt) : (orI (cmpI a.1 b.1) (cmpI a.2 b.2) < 0) ↔ dotLess a b = true := by
  unfold dotLess orI cmpI
  rw [decide_eq_true_iff]
  by_cases h1 : a.1 < b.1
  · rw [if_pos h1]; simp; omega
  · rw [if_neg h1]
    by_cases h2 : b.1 < a.1
    · rw [if_pos h2]; simp; omega
    · rw [if_neg h2]
      simp only [if_true]
      by_cases h3 : a.2 < b.2
      · rw [if_pos h3]; simp; omega
      · rw [if_neg h3]
        by_cases h4 : b.2 < a.2
        · rw [if_pos h4]; simp; omega
        · rw [if_neg h4]; simp; omega
theorem gd {α : Type} {l : List α} {i : Nat} {d : α} (h : i < l.length) : l.getD i d = l[i] := by simp [List.getD, List.getElem?_eq_getElem h]
theorem dotsRow_step {deps : List Int} {ds : List Dt} {k : Nat} (h : dotsRow deps ds k) (h1 : vHas deps (ds.getD k (0, 0)) = true) (h2 : 0 < k → dotLess (ds.getD (k - 1) (0, 0)) (ds.getD k (0, 0)) = true) : dotsRow deps ds (k + 1) := fun j hj => by
  rcases Nat.lt_or_ge j k with h3 | h3
  · exact h j h3
  · obtain rfl : j = k := by omega
    exact ⟨h1, h2⟩
set_option maxHeartbeats 1000000 in
set_option maxRecDepth 100000 in
theorem opDots_ok {w : World} {a a' : Option Addr} {n c n' c' : Nat} {ds : List Dt} {deps : List Int} (h : RdS w eDt (.slice a n c) ds) (h' : RdS w eInt (.slice a' n' c') deps) :
    Calls Tryz.prog 103 #[.slice a n c, .slice a' n' c'] w fun e w' => e = .returned (.bool (dotsMay ds deps)) ∧ Frm No w w' := by
  obtain ⟨hn, hc1, hc2, -⟩ := h.facts
  unfold maxLen at hc2
  have HN := Lib.hid hn
  clear hn
  obtain ⟨B, hB⟩ : ∃ B : Bool, Hid (B = dotsMay ds deps) := ⟨_, Lib.hid rfl⟩
  rw [← hB.out]
  have H := Lib.hid h
  have H' := Lib.hid h'
  clear h h'
  go_enter Tryz.func103, Tryz.ntmps103
  go_wp2_with (fail)
  go_loopg [9] (n + 1) (fun g iv wr => ∃ i : Nat, iv = .int .i64 i ∧ Frm No w wr ∧ i ≤ n ∧ g = n - i + 1 ∧ dotsRow deps ds i)
  case atStart => exact ⟨0, rfl, Frm.refl _ _, Nat.zero_le _, by omega, fun j hj => by omega⟩
  case round =>
    obtain ⟨i, rfl, F, hi, hg, hp⟩ := hrel
    have hG := Lib.hid hg
    have hP := Lib.hid hp
    clear hg hp
    by_cases hlt : i < n
    · have l1 : i < ds.length := by rw [← HN.out]; exact hlt
      obtain ⟨b, off, rfl, hb, hc⟩ := (H.out.no F).at l1
      have e0 : wr.cell? ⟨b, off + i * 2, none⟩ = some (.int .i64 ds[i].1) := hc 0 _ rfl
      have e1 : wr.cell? ⟨b, off + i * 2 + 1, none⟩ = some (.int .i64 ds[i].2) := hc 1 _ rfl
      clear hc
      have HC := Lib.hid (fun W (f : Frm No wr W) => has_ok (H'.out.no (F.trans f)) ds[i])
      have HX : Hid (ds.getD i (0, 0) = ds[i]) := Lib.hid (gd l1)
      obtain ⟨x, hx⟩ : ∃ x, Hid (x = ds[i]) := ⟨_, Lib.hid rfl⟩
      rw [← hx.out] at e0 e1 HC
      rcases hv : vHas deps x with _ | _
      · have HV : Hid (B = false) := Lib.hid (by
          rw [hB.out]
          refine decide_eq_false fun h => ?_
          have := (h.1 i l1).1
          rw [HX.out, ← hx.out, hv] at this
          cases this)
        rw [hv] at HC
        clear hv
        go_wp2_with (fail)
        refine wp_region_plan [([0, 1, 2, 3, 4, 5, 6, 7, 8, 9, 13, 10], [13]), ([11, 12, 14, 15, 16, 17], [])] 36 (by kernel_rfl) (by kernel_rfl) (by simp) ?_
        intro N hN
        simp only [wpSegs, List.map_cons, List.map_nil, List.getD_cons_zero, List.getD_cons_succ]
        go_wp2_with (fail)
        refine (HC.out _ (((Frm.refl No wr).al _).dr _)).mono ?_
        rintro e w1 ⟨rfl, f1⟩
        have C1 : w1.heap[wr.heap.size]? = some (.cells #[.int .i64 x.1, .int .i64 x.2] 32 (0, 0)) := f1.obj (show ((wr.alloc (.cells #[.int .i64 x.1, .int .i64 x.2] 32 (0, 0))).drewN 1).heap[wr.heap.size]? = _ from heap_alloc_new wr _) id
        have F1 : Frm No wr w1 := (((Frm.refl No wr).al _).dr _).trans f1
        have c0 : w1.cell? ⟨wr.heap.size, 0, none⟩ = some (.int .i64 x.1) := obj_cell C1 0
        have c1 : w1.cell? ⟨wr.heap.size, 1, none⟩ = some (.int .i64 x.2) := obj_cell C1 1
        have nc := lt_of_block C1
        clear f1 HC
        go_wp2_with (fail)
        refine ⟨again_cons (again_off rfl rfl) again_nil, ?_⟩
        go_wp2_with (fail)
        go_ret
        exact ⟨congrArg (fun b => Ending.returned (Value.bool b)) HV.out.symm, F.trans F1⟩
      · have HV := Lib.hid hv
        rw [hv] at HC
        clear hv
        by_cases hi0 : i = 0
        · subst hi0
          simp only [Nat.zero_mul, Nat.add_zero] at e0 e1
          go_wp2_with (fail)
          refine wp_region_plan [([0, 1, 2, 3, 4, 5, 6, 7, 8, 9, 13, 10], [13]), ([11, 12, 14, 15, 16, 17], [])] 36 (by kernel_rfl) (by kernel_rfl) (by simp) ?_
          intro N hN
          simp only [wpSegs, List.map_cons, List.map_nil, List.getD_cons_zero, List.getD_cons_succ]
          go_wp2_with (fail)
          refine (HC.out _ (((Frm.refl No wr).al _).dr _)).mono ?_
          rintro e w1 ⟨rfl, f1⟩
          have C1 : w1.heap[wr.heap.size]? = some (.cells #[.int .i64 x.1, .int .i64 x.2] 32 (0, 0)) := f1.obj (show ((wr.alloc (.cells #[.int .i64 x.1, .int .i64 x.2] 32 (0, 0))).drewN 1).heap[wr.heap.size]? = _ from heap_alloc_new wr _) id
          have F1 : Frm No wr w1 := (((Frm.refl No wr).al _).dr _).trans f1
          have c0 : w1.cell? ⟨wr.heap.size, 0, none⟩ = some (.int .i64 x.1) := obj_cell C1 0
          have c1 : w1.cell? ⟨wr.heap.size, 1, none⟩ = some (.int .i64 x.2) := obj_cell C1 1
          have nc := lt_of_block C1
          clear f1 HC
          go_wp2_with (fail)
          refine ⟨again_cons (again_off rfl rfl) again_nil, ?_⟩
          go_wp2_with (fail)
          go_roundg (n - (0 + 1) + 1)
          case measure => have := hG.out; omega
          case rel => exact ⟨1, by go_num, F.trans F1, by omega, rfl, dotsRow_step hP.out (by rw [HX.out, ← hx.out]; exact HV.out) fun h => absurd h (by omega)⟩
        · obtain ⟨k, hk⟩ : ∃ k, i = k + 1 := ⟨i - 1, by omega⟩
          subst hk
          have lk : k < ds.length := by omega
          obtain ⟨b', off', heq, -, hc⟩ := (H.out.no F).at lk
          simp only [Option.some.injEq, Addr.mk.injEq, and_true] at heq
          obtain ⟨rfl, rfl⟩ := heq
          have p0 : wr.cell? ⟨b, off + k * 2, none⟩ = some (.int .i64 ds[k].1) := hc 0 _ rfl
          have p1 : wr.cell? ⟨b, off + k * 2 + 1, none⟩ = some (.int .i64 ds[k].2) := hc 1 _ rfl
          clear hc
          have HY : Hid (ds.getD k (0, 0) = ds[k]) := Lib.hid (gd lk)
          obtain ⟨y, hy⟩ : ∃ y, Hid (y = ds[k]) := ⟨_, Lib.hid rfl⟩
          rw [← hy.out] at p0 p1
          have HD := Lib.hid (fun W => dotCompare_ok y x W)
          have HL := Lib.hid (cmp_less y x)
          obtain ⟨u, hu⟩ : ∃ u, Hid (u = orI (cmpI y.1 x.1) (cmpI y.2 x.2)) := ⟨_, Lib.hid rfl⟩
          rw [← hu.out] at HD HL
          have e2 : ((k + 1 : Nat) : Int) - 1 = (k : Int) := by omega
          go_wp2_with (fail)
          refine wp_region_plan [([0, 1, 2, 3, 4, 5, 6, 7, 8, 9, 13, 10], [13]), ([11, 12, 14, 15, 16, 17], [])] 36 (by kernel_rfl) (by kernel_rfl) (by simp) ?_
          intro N hN
          simp only [wpSegs, List.map_cons, List.map_nil, List.getD_cons_zero, List.getD_cons_succ]
          go_wp2_with (fail)
          refine (HC.out _ (((Frm.refl No wr).al _).dr _)).mono ?_
          rintro e w1 ⟨rfl, f1⟩
          have C1 : w1.heap[wr.heap.size]? = some (.cells #[.int .i64 x.1, .int .i64 x.2] 32 (0, 0)) := f1.obj (show ((wr.alloc (.cells #[.int .i64 x.1, .int .i64 x.2] 32 (0, 0))).drewN 1).heap[wr.heap.size]? = _ from heap_alloc_new wr _) id
          have F1 : Frm No wr w1 := (((Frm.refl No wr).al _).dr _).trans f1
          have c0 : w1.cell? ⟨wr.heap.size, 0, none⟩ = some (.int .i64 x.1) := obj_cell C1 0
          have c1 : w1.cell? ⟨wr.heap.size, 1, none⟩ = some (.int .i64 x.2) := obj_cell C1 1
          have nc := lt_of_block C1
          clear f1 HC
          have p0' : w1.cell? ⟨b, off + k * 2, none⟩ = some (.int .i64 y.1) := (F1.cell (p := ⟨b, off + k * 2, none⟩) hb id).trans p0
          have p1' : w1.cell? ⟨b, off + k * 2 + 1, none⟩ = some (.int .i64 y.2) := (F1.cell (p := ⟨b, off + k * 2 + 1, none⟩) hb id).trans p1
          go_wp2_with (fail)
          refine ⟨again_cons (again_of rfl rfl ?_) again_nil, ?_⟩
          · go_simp
          go_wp2_with (fail)
          refine (HD.out _).mono ?_
          rintro e w2 ⟨rfl, f2⟩
          have F2 := F1.trans f2
          rcases hdl : dotLess y x with _ | _
          · have HV' : Hid (B = false) := Lib.hid (by
              rw [hB.out]
              refine decide_eq_false fun h => ?_
              have := (h.1 (k + 1) l1).2 (Nat.succ_pos k)
              rw [HX.out, ← hx.out, Nat.add_sub_cancel, HY.out, ← hy.out, hdl] at this
              cases this)
            have hge : 0 ≤ u := by
              have := HL.out
              rw [hdl] at this
              simp at this
              omega
            clear HL hdl
            go_wp2_with (fail)
            go_ret
            exact ⟨congrArg (fun b => Ending.returned (Value.bool b)) HV'.out.symm, F.trans F2⟩
          · have hge : ¬ 0 ≤ u := by
              have := HL.out
              rw [hdl] at this
              simp at this
              omega
            have HDL := Lib.hid hdl
            clear HL hdl
            go_wp2_with (fail)
            go_roundg (n - (k + 1 + 1) + 1)
            case measure => have := hG.out; omega
            case rel => exact ⟨k + 1 + 1, by go_num, F.trans F2, by omega, rfl, dotsRow_step hP.out (by rw [HX.out, ← hx.out]; exact HV.out) fun h => by rw [HX.out, ← hx.out, Nat.add_sub_cancel, HY.out, ← hy.out]; exact HDL.out⟩
    · have hii : ¬ ((i : Int) < n) := by omega
      obtain rfl : i = n := by omega
      have hlen : B = decide (i ≤ 64) := by
        rw [hB.out]
        unfold dotsMay
        have hr := hP.out
        have hn := HN.out
        rw [← hn]
        exact decide_eq_decide.2 ⟨fun h => h.2, fun h => ⟨hr, h⟩⟩
      have HLn := Lib.hid hlen
      clear hlen
      go_wp2_with (fail)
      go_ret
      exact ⟨congrArg (fun b => Ending.returned (Value.bool b)) (by rw [HLn.out]; exact dec_d (by omega)), F⟩
end Go.Proofs.YtofikfkgiblblaaGreatDoor

/- Merged: Rep5. -/
import Derived.Test.YthaegncocdddfaaGreatDoorK10
import Derived.Test.YthaegncocdddfaaGreatDoorK21
/- package strings' Replacer, walked: byteStringReplacer's Replace. -/
namespace Go.Proofs.YthaegncocdddfaaGreatDoor
set_option linter.unusedVariables false
set_option linter.unusedSimpArgs false
set_option linter.unusedVariables false
set_option linter.unusedSimpArgs false
open Go.RowKit Go.Lib Go.Tt
def D3 : List UInt8 := [10, 92, 34]
/-- How much longer a text grows by the bytes of D. -/
def more (D l : List UInt8) : Nat := (D.map fun c => l.count c).sum
theorem isRep_mem (c : UInt8) : c ∈ D3 ↔ isRep c = true := by
  unfold isRep D3
  simp only [List.mem_cons, List.not_mem_nil, or_false, Bool.or_eq_true, beq_iff_eq]
  constructor
  · rintro (h | h | h) <;> simp [h]
  · rintro ((h | h) | h) <;> simp [h]
theorem more_step {D l : List UInt8} {j : Nat} (h : j < D.length) : more (D.take (j + 1)) l = more (D.take j) l + l.count D[j] := by
  unfold more
  rw [List.take_succ_eq_append_getElem h, List.map_append, List.sum_append]
  simp
theorem more_le {D l : List UInt8} (j : Nat) : more (D.take j) l ≤ more D l := by
  have : more D l = more (D.take j) l + more (D.drop j) l := by
    unfold more
    rw [← List.sum_append, ← List.map_append, List.take_append_drop]
  omega
theorem dq_more (l : List UInt8) : (l.flatMap dqc).length = l.length + more D3 l := by
  rw [dq_len]
  show _ = l.length + (l.count 10 + (l.count 92 + (l.count 34 + 0)))
  omega
theorem more_zero {l : List UInt8} (h : more D3 l = 0) : l.flatMap dqc = l := by
  have h' : l.count 10 + (l.count 92 + (l.count 34 + 0)) = 0 := h
  exact dq_same (by omega) (by omega) (by omega)
theorem more_take {l : List UInt8} {i : Nat} (h : i < l.length) : more D3 (l.take (i + 1)) = more D3 (l.take i) + (if isRep l[i] then 1 else 0) := by
  have h1 := dq_more (l.take (i + 1))
  have h2 := dq_more (l.take i)
  rw [dq_take h, List.length_append] at h1
  rw [List.length_take] at h1 h2
  have h3 : (dqc l[i]).length = 1 + (if isRep l[i] then 1 else 0) := by
    cases hr : isRep l[i] with
    | false => rw [dqc_rep hr]; rfl
    | true => rw [dqc_two hr]; rfl
  omega
theorem more_take_le (l : List UInt8) (i : Nat) : more D3 (l.take i) ≤ more D3 l := by
  have h1 := (List.take_sublist i l).count_le (10 : UInt8)
  have h2 := (List.take_sublist i l).count_le (92 : UInt8)
  have h3 := (List.take_sublist i l).count_le (34 : UInt8)
  show (l.take i).count 10 + ((l.take i).count 92 + ((l.take i).count 34 + 0)) ≤ l.count 10 + (l.count 92 + (l.count 34 + 0))
  omega
theorem byL_len (s : ByteArray) : (byL s).length = s.size := by unfold byL; rw [Array.length_toList]; rfl
/-- The buffer's cells: what is told, and zeros behind it. -/
def bufL (A : List UInt8) (m : Nat) : List Value := Lib.byteCells (A ++ List.replicate m 0)
theorem bufL_len (A : List UInt8) (m : Nat) : (bufL A m).length = A.length + m := by simp [bufL, Lib.byteCells]
theorem bufL_zero (m : Nat) : List.replicate m (Value.int .u8 0) = bufL [] m := by simp [bufL, Lib.byteCells]
theorem bufL_put (A C : List UInt8) (m : Nat) : rowPut (bufL A (C.length + m)) A.length (Lib.byteCells C) = bufL (A ++ C) m := by
  unfold rowPut bufL Lib.byteCells
  rw [List.length_map, List.map_append, List.take_left' (by simp), List.drop_append]
  simp [Nat.add_sub_cancel_left]
theorem bufL_set (A : List UInt8) (c : UInt8) (m : Nat) : (bufL A (m + 1)).toArray.setIfInBounds A.length (.int .u8 c.toNat) = (bufL (A ++ [c]) m).toArray := by
  apply Array.toList_inj.1
  rw [Array.toList_setIfInBounds]
  unfold bufL Lib.byteCells
  simp only [List.map_append]
  rw [List.set_append_right _ _ (by simp)]
  simp [List.replicate_succ]
/-- The replacer: what is read of it. -/
structure BsF (w : World) (rb : Nat) : Prop where
  row : ∃ tb tq tc, w.cell? ⟨rb, 256, none⟩ = some (.slice (some ⟨tb, tq, none⟩) 3 tc) ∧ tb < w.heap.size ∧ ∀ j (h : j < D3.length), w.cell? ⟨tb, tq + j, none⟩ = some (.string ⟨#[D3[j]]⟩)
  no : ∀ c, isRep c = false → w.cell? ⟨rb, c.toNat, none⟩ = some (.slice none 0 0)
  yes : ∀ c, isRep c = true → ∃ g o cp, w.cell? ⟨rb, c.toNat, none⟩ = some (.slice (some ⟨g, o, none⟩) 2 cp) ∧ g < w.heap.size ∧ ∀ j v, (Lib.byteCells (dqc c))[j]? = some v → w.cell? ⟨g, o + j, none⟩ = some v
  lt : rb < w.heap.size
theorem BsP.f {w : World} {M rb : Nat} (h : BsP w M rb D3) : BsF w rb := by
  obtain ⟨arr, tv, T, hB, -, -, hC, hT, O⟩ := h
  have R := O.rd
  refine ⟨?_, fun c hc => ?_, fun c hc => ?_, lt_of_block hB⟩
  · obtain ⟨ta, tc, rfl⟩ := R.sh
    obtain ⟨tb, tq, rfl, hlt, k⟩ := R.at (i := 0) (by decide)
    refine ⟨tb, tq, tc, (obj_cell hB _).trans hT, hlt, fun j hj => ?_⟩
    obtain ⟨tb', to', e, -, k'⟩ := R.at (i := j) (by simpa using hj)
    cases e
    have := k' 0 (.string ⟨#[D3[j]]⟩) (by rw [List.getElem_map]; rfl)
    rw [show j * eStr.k + 0 = j from by show j * 1 + 0 = j; omega] at this
    exact this
  · obtain ⟨v, h1, h2⟩ := hC c
    obtain rfl := h2.1 fun hm => by rw [(isRep_mem c).1 hm] at hc; cases hc
    exact (obj_cell hB _).trans h1
  · obtain ⟨v, h1, h2⟩ := hC c
    obtain ⟨g, o, cp, rfl, -, -, -, r⟩ := h2.2 ((isRep_mem c).2 hc)
    refine ⟨g, o, cp, (obj_cell hB _).trans h1, r.blk_lt rfl, fun j v hv => ?_⟩
    have hj : j < (dqc c).length := by
      have := (List.getElem?_eq_some_iff.1 hv).1
      simpa [Lib.byteCells] using this
    obtain ⟨g', o', e, -, k'⟩ := r.at hj
    cases e
    have e2 : v = .int .u8 (dqc c)[j].toNat := by
      unfold Lib.byteCells at hv
      rw [List.getElem?_map, List.getElem?_eq_getElem hj] at hv
      exact (Option.some.inj hv).symm
    rw [e2]
    have := k' 0 _ rfl
    rw [show j * eU8.k + 0 = j from by show j * 1 + 0 = j; omega] at this
    exact this
theorem BsF.frm {w w' : World} {rb : Nat} (h : BsF w rb) (f : Frm No w w') : BsF w' rb := by
  obtain ⟨⟨tb, tq, tc, h1, h2, h3⟩, h4, h5, h6⟩ := h
  have sz := f.size
  refine ⟨⟨tb, tq, tc, (f.cell (p := ⟨rb, 256, none⟩) h6 id).trans h1, by omega, fun j hj => (f.cell (p := ⟨tb, tq + j, none⟩) h2 id).trans (h3 j hj)⟩, fun c hc => (f.cell (p := ⟨rb, c.toNat, none⟩) h6 id).trans (h4 c hc), fun c hc => ?_, by omega⟩
  obtain ⟨g, o, cp, k1, k2, k3⟩ := h5 c hc
  exact ⟨g, o, cp, (f.cell (p := ⟨rb, c.toNat, none⟩) h6 id).trans k1, by omega, fun j v hv => (f.cell (p := ⟨g, o + j, none⟩) k2 id).trans (k3 j v hv)⟩
set_option maxHeartbeats 8000000 in
set_option maxRecDepth 100000 in
theorem bsr_ok {w : World} {rb : Nat} (h : BsF w rb) (s : ByteArray) (hs : ((byL s).flatMap dqc).length ≤ 140737488355328) :
    Calls Tryz.prog 205 #[.pointer (some ⟨rb, 0, none⟩), .string s] w fun e w' => e = .returned (.string ⟨((byL s).flatMap dqc).toArray⟩) ∧ Frm No w w' := by
  obtain ⟨tb, tq, tc, c256, htb, hrow⟩ := h.row
  have HR := Lib.hid hrow
  have nb := h.lt
  have HB := Lib.hid h
  obtain ⟨l, hl⟩ : ∃ l, l = byL s := ⟨_, rfl⟩
  have hsz : s.size = l.length := by rw [hl, byL_len]
  have HSZ := Lib.hid hsz
  have HL := Lib.hid hl
  obtain ⟨R, hR⟩ : ∃ R : Ending → World → Prop, R = fun e w' => e = .returned (.string ⟨((byL s).flatMap dqc).toArray⟩) ∧ Frm No w w' := ⟨_, rfl⟩
  rw [← hR]
  have HQ := Lib.hid hR
  rw [← hl, dq_more] at hs
  have heqn := fun W a n c => run_neq_slice_nil (P := Tryz.prog) W 58 5 a n c Tryz.underlying58
  clear hR h hrow hsz hl
  have hnot : ∀ (x : Bool) (w : World), (Op.unary .not (.bool x)).run Tryz.prog w = .ok (.bool (!x)) w := fun _ _ => rfl
  have hsz := HSZ.out
  have bs63 : s.size ≤ 140737488355328 := by omega
  clear hsz
  by_cases h24 : (24 : Int) ≤ (s.size : Int)
  · go_enter Tryz.func205, Tryz.ntmps205
    go_wp2_with (fail)
    go_loopg [5, 6, 32] 4 (fun g nv bv iv wr => ∃ j : Nat, iv = .int .i64 j ∧ g = 3 - j + 1 ∧ j ≤ 3 ∧ nv = .int .i64 ((s.size + more (D3.take j) l : Nat) : Int) ∧ bv = .bool (decide (0 < more (D3.take j) l)) ∧ Frm No w wr)
    case atStart => exact ⟨0, rfl, rfl, Nat.zero_le _, rfl, rfl, Frm.refl _ _⟩
    case round =>
      obtain ⟨j, rfl, hg, hj, rfl, rfl, F1⟩ := hrel
      have HG := Lib.hid hg
      clear hg
      by_cases h3 : j < 3
      · have hj3 : j < D3.length := h3
        obtain ⟨c, hc⟩ : ∃ c, c = D3[j] := ⟨_, rfl⟩
        have e0 : wr.cell? ⟨tb, tq + j, none⟩ = some (.string ⟨#[c]⟩) := (F1.cell (p := ⟨tb, tq + j, none⟩) htb id).trans (by rw [hc]; exact HR.out j hj3)
        have hst := more_step (l := l) hj3
        rw [← hc] at hst
        have hle := more_le (D := D3) (l := l) (j + 1)
        obtain ⟨g, o, cp, q0, -, -⟩ := (HB.out.frm F1).yes c ((isRep_mem c).1 (by rw [hc]; exact List.getElem_mem hj3))
        have HCt := Tryz.strings_Count_one s c wr
        rw [show s.data.toList = l from HL.out.symm] at HCt
        unfold Lib.countByte at HCt
        obtain ⟨k, hk⟩ : ∃ k, k = l.count c := ⟨_, rfl⟩
        obtain ⟨t, ht⟩ : ∃ t, t = more (D3.take j) l := ⟨_, rfl⟩
        obtain ⟨t', ht'⟩ : ∃ t', t' = more (D3.take (j + 1)) l := ⟨_, rfl⟩
        rw [← hk] at HCt hst
        rw [← ht, ← ht'] at hst
        rw [← ht'] at hle
        rw [← ht]
        have HST := Lib.hid hst
        have HT := Lib.hid ht'
        have hsz := HSZ.out
        have b1 : s.size + t + k ≤ 140737488355328 := by omega
        have hy0 : ((⟨#[c]⟩ : ByteArray)[0]'Nat.zero_lt_one) = c := rfl
        have hc256 : c.toNat < 256 := c.toNat_lt
        clear hst ht ht' hk hc hle hsz hs
        go_wp2_with (fail)
        refine HCt.mono ?_
        rintro e w1 ⟨rfl, rfl⟩
        by_cases hk0 : k = 0
        · have hkb : ((k : Int) != 0) = false := by simpa using hk0
          go_wp2_with (fail)
          go_roundg (3 - (j + 1) + 1)
          case measure => have := HG.out; omega
          case rel =>
            have h1 := HST.out
            have h2 := HT.out
            exact ⟨j + 1, by go_num, rfl, h3, congrArg (Value.int .i64) (by rw [← h2, h1]; omega), congrArg Value.bool (decide_eq_decide.2 (by rw [← h2, h1]; omega)), F1⟩
        · have hkb : ((k : Int) != 0) = true := by simpa using hk0
          go_wp2_with (fail)
          refine wp_region_plan [([0, 1, 2, 3, 5, 6, 4, 7, 8, 9, 10, 11, 12, 13], [])] 122 (by kernel_rfl) (by kernel_rfl) (by simp) ?_
          intro N hN
          simp only [wpSegs, List.map_cons, List.map_nil, List.getD_cons_zero, List.getD_cons_succ]
          go_wp2_with (fail)
          go_roundg (3 - (j + 1) + 1)
          case measure => have := HG.out; omega
          case rel =>
            have h1 := HST.out
            have h2 := HT.out
            refine ⟨j + 1, by go_num, rfl, h3, congrArg (Value.int .i64) (by rw [← h2, h1]; omega), congrArg Value.bool (by rw [← h2, h1]; symm; exact decide_eq_true (by omega)), ?_⟩
            exact F1.trans (Frm.drew _ _)
      · obtain rfl : j = 3 := by omega
        rw [show D3.take 3 = D3 from rfl]
        clear HG hj h3 h24
        obtain ⟨t, ht⟩ : ∃ t, t = more D3 l := ⟨_, rfl⟩
        rw [← ht]
        rw [← ht] at hs
        have HT := Lib.hid ht
        have hsz := HSZ.out
        clear ht
        by_cases h0 : t = 0
        · have hd : decide (0 < t) = false := decide_eq_false (by omega)
          go_wp2_with (fail)
          rw [HQ.out]
          refine ⟨?_, F1⟩
          have := more_zero (l := l) (by rw [← HT.out]; exact h0)
          rw [← HL.out, this, HL.out]
          rfl
        · have hd : decide (0 < t) = true := decide_eq_true (by omega)
          obtain ⟨n, hn⟩ : ∃ n, n = s.size + t := ⟨_, rfl⟩
          have HN := Lib.hid hn
          have hn2 : n ≤ 140737488355328 := by omega
          rw [← hn]
          clear hn hsz hs
          go_wp2_with (at_make; refine wpList_mk1 _ rfl _ _ 58 rfl 5 (.int .u8 0) 1 Tryz.underlying58 i_u8 rfl _ _ _ _ n rfl rfl rfl rfl (by omega) (by unfold maxLen; omega) ?_)
          intro w2 o2 g2
          have F2 : Frm No w w2 := F1.trans (grown_no g2)
          obtain ⟨gb, hgb⟩ : ∃ gb, gb = wr.heap.size := ⟨_, rfl⟩
          rw [← hgb] at o2 ⊢
          have G0 : w2.heap[gb]? = some (.cells (bufL [] n).toArray 5 (0, 0)) := by
            obtain ⟨-, ⟨h, -⟩ | ⟨g, cap, cur, h, -, hg, -, -, hcs, htk⟩⟩ := o2
            · cases h
            · cases h
              rw [hg]
              congr 2
              apply Array.toList_inj.1
              rw [List.take_of_length_le (by rw [Array.length_toList]; omega)] at htk
              rw [htk, bufL_zero]
          have hwg : w.heap.size ≤ gb := by rw [hgb]; exact F1.size
          clear o2 g2 hgb F1
          go_wp2_with (fail)
          go_loopg [13, 14] (s.size + 1) (fun g jv iv wq => ∃ i : Nat, iv = .int .i64 i ∧ g = s.size - i + 1 ∧ i ≤ s.size ∧ jv = .int .i64 (((l.take i).flatMap dqc).length : Nat) ∧ wq.heap[gb]? = some (.cells (bufL ((l.take i).flatMap dqc) (n - ((l.take i).flatMap dqc).length)).toArray 5 (0, 0)) ∧ Frm No w wq)
          case atStart => exact ⟨0, rfl, rfl, Nat.zero_le _, rfl, G0, F2⟩
          case round =>
            obtain ⟨i, rfl, hg, hi, rfl, G1, F3⟩ := hrel
            have HG := Lib.hid hg
            clear hg
            by_cases h3 : i < s.size
            · have hil : i < l.length := by have := HSZ.out; omega
              have hcl : l[i] = s[i]'h3 := by
                have : ∀ (L : List UInt8) (h : i < L.length), L = byL s → L[i] = s[i]'h3 := fun L h e => by subst e; rfl
                exact this l hil HL.out
              have hdt := dq_take hil
              rw [hcl] at hdt
              have hle := dq_le (l := l) (i + 1)
              rw [dq_more l, HSZ.out.symm, ← HT.out, ← HN.out] at hle
              obtain ⟨A, hA⟩ : ∃ A, A = (l.take i).flatMap dqc := ⟨_, rfl⟩
              rw [← hA] at G1 hdt ⊢
              rw [hdt, List.length_append] at hle
              have HD := Lib.hid hdt
              have hc256 : (s[i]'h3).toNat < 256 := (s[i]'h3).toNat_lt
              have ngb := lt_of_block G1
              have z1 := obj_frz G1
              cases hrp : isRep (s[i]'h3) with
              | true =>
                obtain ⟨g, o, cp, q0, q1, q2⟩ := (HB.out.frm F3).yes _ hrp
                rw [dqc_two hrp] at hle
                have HR2 := Lib.hid (dqc_two hrp)
                have HQ2 := Lib.hid q2
                have HRP := Lib.hid hrp
                clear hrp hdt hcl hA q2
                go_wp2_with (fail)
                refine wp_region_plan [([0, 1, 2, 3, 4, 5, 6, 7, 8, 9, 10, 11, 12], [])] 122 (by kernel_rfl) (by kernel_rfl) (by simp) ?_
                intro N hN
                simp only [wpSegs, List.map_cons, List.map_nil, List.getD_cons_zero, List.getD_cons_succ]
                go_wp2_with (refine wpList_copyk _ rfl (.tmp 105) (.tmp 111) 58 58 5 rfl (Lib.byteCells (dqc (s[i]'h3))) 1 Tryz.underlying58 (by kernel_rfl) (by exact G1) ?d1 ?d2 ?d3 ?d4 rfl rfl ?_)
                case d1 => rw [show (Lib.byteCells (dqc (s[i]'h3))).length = (dqc (s[i]'h3)).length from by simp [Lib.byteCells], HR2.out, Nat.mul_one]; simp only [Nat.min_def]; split <;> omega
                case d2 =>
                  intro j v hj
                  rw [Addr.add_lit]
                  exact HQ2.out j v hj
                case d3 => rw [show (Lib.byteCells (dqc (s[i]'h3))).length = (dqc (s[i]'h3)).length from by simp [Lib.byteCells], HR2.out, List.size_toArray, bufL_len]; omega
                case d4 => rw [← eU8_flat]; exact eU8.flat_one' _
                intro w4 G4 f4 s4
                have hmn : Nat.min 2 (n - A.length) = 2 := by simp only [Nat.min_def]; split <;> omega
                rw [hmn]
                have G4' := Lib.hid G4
                clear G4 G1 hmn
                go_wp2_with (fail)
                go_roundg (s.size - (i + 1) + 1)
                case measure => have := HG.out; omega
                case rel =>
                  have h1 := HD.out
                  have h2 := G4'.out
                  rw [show n - A.length = (dqc (s[i]'h3)).length + (n - A.length - 2) from by rw [HR2.out]; omega, bufL_put] at h2
                  refine ⟨i + 1, by go_num, rfl, h3, congrArg (Value.int .i64) (by rw [h1, List.length_append, HR2.out]; omega), ?_, (F3.dr 1).then f4 fun k hk h => by omega⟩
                  rw [h1, List.length_append, HR2.out, show n - (A.length + 2) = n - A.length - 2 from by omega]
                  exact h2
              | false =>
                have q0 := (HB.out.frm F3).no _ hrp
                rw [dqc_rep hrp] at hle
                have hle2 : A.length + 1 ≤ n := hle
                have HRP := Lib.hid hrp
                obtain ⟨m, hm⟩ : ∃ m, n - A.length = m + 1 := ⟨n - A.length - 1, by omega⟩
                rw [hm] at G1
                have G1' := Lib.hid G1
                have d0 : wr.cell? ⟨gb, A.length, none⟩ = some (.int .u8 0) := by
                  rw [obj_cell G1, List.getElem?_toArray]
                  simp [bufL, Lib.byteCells]
                clear hrp hdt hcl hA hle G1
                go_wp2_with (fail)
                go_roundg (s.size - (i + 1) + 1)
                case measure => have := HG.out; omega
                case rel =>
                  have h1 := HD.out
                  rw [dqc_rep HRP.out] at h1
                  refine ⟨i + 1, by go_num, rfl, h3, congrArg (Value.int .i64) (by rw [h1, List.length_append]; rfl), ?_, F3.st hwg _ _⟩
                  rw [h1, List.length_append, show n - (A.length + [s[i]'h3].length) = m from by show n - (A.length + 1) = m; omega, obj_setCell G1'.out, bufL_set]
            · obtain rfl : i = s.size := by omega
              clear HG hi h3
              rw [show l.take s.size = l from List.take_of_length_le (by have := HSZ.out; omega)] at G1 ⊢
              have hL : (l.flatMap dqc).length = n := by rw [dq_more l, ← HSZ.out, ← HT.out, ← HN.out]
              have hR : RdS wr eU8 (.slice (some ⟨gb, 0, none⟩) n n) (l.flatMap dqc) := by
                rw [hL, Nat.sub_self] at G1
                refine ⟨_, _, by rw [hL], by rw [hL]; exact Nat.le_refl _, by unfold maxLen; omega, fun h => (by cases h), fun _ => ⟨gb, 0, rfl, fun m u hm => ?_⟩⟩
                rw [obj_cell G1, List.getElem?_toArray, Nat.zero_add]
                rw [eU8_flat] at hm
                simpa [bufL] using hm
              have hcv := conv_rd hR (by rw [hL]; have := HN.out; omega)
              have HL2 := Lib.hid hL
              clear hL hR G1
              go_wp2_with (fail)
              rw [HQ.out, ← HL.out]
              exact ⟨rfl, F3⟩
  · go_enter Tryz.func205, Tryz.ntmps205
    go_wp2_with (fail)
    go_loopg [5, 6, 10] (s.size + 1) (fun g nv bv iv wr => ∃ i : Nat, iv = .int .i64 i ∧ g = s.size - i + 1 ∧ i ≤ s.size ∧ nv = .int .i64 ((s.size + more D3 (l.take i) : Nat) : Int) ∧ bv = .bool (decide (0 < more D3 (l.take i))) ∧ Frm No w wr)
    case atStart => exact ⟨0, rfl, rfl, Nat.zero_le _, rfl, rfl, Frm.refl _ _⟩
    case round =>
      obtain ⟨i, rfl, hg, hi, rfl, rfl, F1⟩ := hrel
      have HG := Lib.hid hg
      clear hg
      by_cases h3 : i < s.size
      · have hil : i < l.length := by have := HSZ.out; omega
        have hcl : l[i] = s[i]'h3 := by
          have : ∀ (L : List UInt8) (h : i < L.length), L = byL s → L[i] = s[i]'h3 := fun L h e => by subst e; rfl
          exact this l hil HL.out
        have hmt := more_take hil
        rw [hcl] at hmt
        have hle := more_take_le l (i + 1)
        have hc256 : (s[i]'h3).toNat < 256 := (s[i]'h3).toNat_lt
        obtain ⟨t, ht⟩ : ∃ t, t = more D3 (l.take i) := ⟨_, rfl⟩
        rw [← ht]
        rw [← ht] at hmt
        have HM := Lib.hid hmt
        have hsz := HSZ.out
        cases hrp : isRep (s[i]'h3) with
        | true =>
          rw [hrp] at hmt
          have b1 : s.size + t + 1 ≤ 140737488355328 := by simp only [if_true] at hmt; omega
          obtain ⟨g, o, cp, q0, -, -⟩ := (HB.out.frm F1).yes _ hrp
          have HRP := Lib.hid hrp
          clear hrp hmt hle ht hs hsz hcl
          go_wp2_with (fail)
          go_roundg (s.size - (i + 1) + 1)
          case measure => have := HG.out; omega
          case rel =>
            have h1 := HM.out
            rw [HRP.out, if_pos rfl] at h1
            exact ⟨i + 1, by go_num, rfl, h3, congrArg (Value.int .i64) (by rw [h1]; omega), congrArg Value.bool (by rw [h1]; symm; exact decide_eq_true (by omega)), F1⟩
        | false =>
          have q0 := (HB.out.frm F1).no _ hrp
          have HRP := Lib.hid hrp
          clear hrp hmt hle ht hs hsz hcl
          go_wp2_with (fail)
          go_roundg (s.size - (i + 1) + 1)
          case measure => have := HG.out; omega
          case rel =>
            have h1 := HM.out
            rw [HRP.out] at h1
            simp only [Bool.false_eq_true, if_false, Nat.add_zero] at h1
            exact ⟨i + 1, by go_num, rfl, h3, congrArg (Value.int .i64) (by rw [h1]), congrArg Value.bool (by rw [h1]), F1⟩
      · obtain rfl : i = s.size := by omega
        rw [show l.take s.size = l from List.take_of_length_le (by have := HSZ.out; omega)]
        clear HG hi h3 h24
        obtain ⟨t, ht⟩ : ∃ t, t = more D3 l := ⟨_, rfl⟩
        rw [← ht]
        rw [← ht] at hs
        have HT := Lib.hid ht
        have hsz := HSZ.out
        clear ht
        by_cases h0 : t = 0
        · have hd : decide (0 < t) = false := decide_eq_false (by omega)
          go_wp2_with (fail)
          rw [HQ.out]
          refine ⟨?_, F1⟩
          have := more_zero (l := l) (by rw [← HT.out]; exact h0)
          rw [← HL.out, this, HL.out]
          rfl
        · have hd : decide (0 < t) = true := decide_eq_true (by omega)
          obtain ⟨n, hn⟩ : ∃ n, n = s.size + t := ⟨_, rfl⟩
          have HN := Lib.hid hn
          have hn2 : n ≤ 140737488355328 := by omega
          rw [← hn]
          clear hn hsz hs
          go_wp2_with (at_make; refine wpList_mk1 _ rfl _ _ 58 rfl 5 (.int .u8 0) 1 Tryz.underlying58 i_u8 rfl _ _ _ _ n rfl rfl rfl rfl (by omega) (by unfold maxLen; omega) ?_)
          intro w2 o2 g2
          have F2 : Frm No w w2 := F1.trans (grown_no g2)
          obtain ⟨gb, hgb⟩ : ∃ gb, gb = wr.heap.size := ⟨_, rfl⟩
          rw [← hgb] at o2 ⊢
          have G0 : w2.heap[gb]? = some (.cells (bufL [] n).toArray 5 (0, 0)) := by
            obtain ⟨-, ⟨h, -⟩ | ⟨g, cap, cur, h, -, hg, -, -, hcs, htk⟩⟩ := o2
            · cases h
            · cases h
              rw [hg]
              congr 2
              apply Array.toList_inj.1
              rw [List.take_of_length_le (by rw [Array.length_toList]; omega)] at htk
              rw [htk, bufL_zero]
          have hwg : w.heap.size ≤ gb := by rw [hgb]; exact F1.size
          clear o2 g2 hgb F1
          go_wp2_with (fail)
          go_loopg [13, 14] (s.size + 1) (fun g jv iv wq => ∃ i : Nat, iv = .int .i64 i ∧ g = s.size - i + 1 ∧ i ≤ s.size ∧ jv = .int .i64 (((l.take i).flatMap dqc).length : Nat) ∧ wq.heap[gb]? = some (.cells (bufL ((l.take i).flatMap dqc) (n - ((l.take i).flatMap dqc).length)).toArray 5 (0, 0)) ∧ Frm No w wq)
          case atStart => exact ⟨0, rfl, rfl, Nat.zero_le _, rfl, G0, F2⟩
          case round =>
            obtain ⟨i, rfl, hg, hi, rfl, G1, F3⟩ := hrel
            have HG := Lib.hid hg
            clear hg
            by_cases h3 : i < s.size
            · have hil : i < l.length := by have := HSZ.out; omega
              have hcl : l[i] = s[i]'h3 := by
                have : ∀ (L : List UInt8) (h : i < L.length), L = byL s → L[i] = s[i]'h3 := fun L h e => by subst e; rfl
                exact this l hil HL.out
              have hdt := dq_take hil
              rw [hcl] at hdt
              have hle := dq_le (l := l) (i + 1)
              rw [dq_more l, HSZ.out.symm, ← HT.out, ← HN.out] at hle
              obtain ⟨A, hA⟩ : ∃ A, A = (l.take i).flatMap dqc := ⟨_, rfl⟩
              rw [← hA] at G1 hdt ⊢
              rw [hdt, List.length_append] at hle
              have HD := Lib.hid hdt
              have hc256 : (s[i]'h3).toNat < 256 := (s[i]'h3).toNat_lt
              have ngb := lt_of_block G1
              have z1 := obj_frz G1
              cases hrp : isRep (s[i]'h3) with
              | true =>
                obtain ⟨g, o, cp, q0, q1, q2⟩ := (HB.out.frm F3).yes _ hrp
                rw [dqc_two hrp] at hle
                have HR2 := Lib.hid (dqc_two hrp)
                have HQ2 := Lib.hid q2
                have HRP := Lib.hid hrp
                clear hrp hdt hcl hA q2
                go_wp2_with (fail)
                refine wp_region_plan [([0, 1, 2, 3, 4, 5, 6, 7, 8, 9, 10, 11, 12], [])] 122 (by kernel_rfl) (by kernel_rfl) (by simp) ?_
                intro N hN
                simp only [wpSegs, List.map_cons, List.map_nil, List.getD_cons_zero, List.getD_cons_succ]
                go_wp2_with (refine wpList_copyk _ rfl (.tmp 105) (.tmp 111) 58 58 5 rfl (Lib.byteCells (dqc (s[i]'h3))) 1 Tryz.underlying58 (by kernel_rfl) (by exact G1) ?d1 ?d2 ?d3 ?d4 rfl rfl ?_)
                case d1 => rw [show (Lib.byteCells (dqc (s[i]'h3))).length = (dqc (s[i]'h3)).length from by simp [Lib.byteCells], HR2.out, Nat.mul_one]; simp only [Nat.min_def]; split <;> omega
                case d2 =>
                  intro j v hj
                  rw [Addr.add_lit]
                  exact HQ2.out j v hj
                case d3 => rw [show (Lib.byteCells (dqc (s[i]'h3))).length = (dqc (s[i]'h3)).length from by simp [Lib.byteCells], HR2.out, List.size_toArray, bufL_len]; omega
                case d4 => rw [← eU8_flat]; exact eU8.flat_one' _
                intro w4 G4 f4 s4
                have hmn : Nat.min 2 (n - A.length) = 2 := by simp only [Nat.min_def]; split <;> omega
                rw [hmn]
                have G4' := Lib.hid G4
                clear G4 G1 hmn
                go_wp2_with (fail)
                go_roundg (s.size - (i + 1) + 1)
                case measure => have := HG.out; omega
                case rel =>
                  have h1 := HD.out
                  have h2 := G4'.out
                  rw [show n - A.length = (dqc (s[i]'h3)).length + (n - A.length - 2) from by rw [HR2.out]; omega, bufL_put] at h2
                  refine ⟨i + 1, by go_num, rfl, h3, congrArg (Value.int .i64) (by rw [h1, List.length_append, HR2.out]; omega), ?_, (F3.dr 1).then f4 fun k hk h => by omega⟩
                  rw [h1, List.length_append, HR2.out, show n - (A.length + 2) = n - A.length - 2 from by omega]
                  exact h2
              | false =>
                have q0 := (HB.out.frm F3).no _ hrp
                rw [dqc_rep hrp] at hle
                have hle2 : A.length + 1 ≤ n := hle
                have HRP := Lib.hid hrp
                obtain ⟨m, hm⟩ : ∃ m, n - A.length = m + 1 := ⟨n - A.length - 1, by omega⟩
                rw [hm] at G1
                have G1' := Lib.hid G1
                have d0 : wr.cell? ⟨gb, A.length, none⟩ = some (.int .u8 0) := by
                  rw [obj_cell G1, List.getElem?_toArray]
                  simp [bufL, Lib.byteCells]
                clear hrp hdt hcl hA hle G1
                go_wp2_with (fail)
                go_roundg (s.size - (i + 1) + 1)
                case measure => have := HG.out; omega
                case rel =>
                  have h1 := HD.out
                  rw [dqc_rep HRP.out] at h1
                  refine ⟨i + 1, by go_num, rfl, h3, congrArg (Value.int .i64) (by rw [h1, List.length_append]; rfl), ?_, F3.st hwg _ _⟩
                  rw [h1, List.length_append, show n - (A.length + [s[i]'h3].length) = m from by show n - (A.length + 1) = m; omega, obj_setCell G1'.out, bufL_set]
            · obtain rfl : i = s.size := by omega
              clear HG hi h3
              rw [show l.take s.size = l from List.take_of_length_le (by have := HSZ.out; omega)] at G1 ⊢
              have hL : (l.flatMap dqc).length = n := by rw [dq_more l, ← HSZ.out, ← HT.out, ← HN.out]
              have hR : RdS wr eU8 (.slice (some ⟨gb, 0, none⟩) n n) (l.flatMap dqc) := by
                rw [hL, Nat.sub_self] at G1
                refine ⟨_, _, by rw [hL], by rw [hL]; exact Nat.le_refl _, by unfold maxLen; omega, fun h => (by cases h), fun _ => ⟨gb, 0, rfl, fun m u hm => ?_⟩⟩
                rw [obj_cell G1, List.getElem?_toArray, Nat.zero_add]
                rw [eU8_flat] at hm
                simpa [bufL] using hm
              have hcv := conv_rd hR (by rw [hL]; have := HN.out; omega)
              have HL2 := Lib.hid hL
              clear hL hR G1
              go_wp2_with (fail)
              rw [HQ.out, ← HL.out]
              exact ⟨rfl, F3⟩
end Go.Proofs.YthaegncocdddfaaGreatDoor

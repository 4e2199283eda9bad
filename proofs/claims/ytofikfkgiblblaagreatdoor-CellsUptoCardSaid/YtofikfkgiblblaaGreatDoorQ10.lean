/- Merged: Txt2 Blk Blk2. -/
import Derived.StillTailTactics
import Derived.Laws.CopyRow
import Derived.Test.YtofikfkgiblblaaGreatDoorQ02
import Derived.Test.YtofikfkgiblblaaGreatDoorQ08
import Derived.Test.YtofikfkgiblblaaGreatDoorQ09
/- Texts told: cell.Text. -/
namespace Go.Proofs.YtofikfkgiblblaaGreatDoor
set_option linter.unusedVariables false
set_option linter.unusedSimpArgs false
set_option linter.unusedVariables false
set_option linter.unusedSimpArgs false
open Go.RowKit Go.Lib Go.Tt
/-- A digit of sixteen. -/
def hexD (n : Nat) : UInt8 := if n < 10 then UInt8.ofNat (48 + n) else UInt8.ofNat (87 + n)
/-- A byte told. -/
def qc (c : UInt8) : List UInt8 := if c.toNat = 34 ∨ c.toNat = 92 then [92, c] else if c.toNat < 32 ∨ 126 < c.toNat then [92, 117, 48, 48, hexD (c.toNat / 16), hexD (c.toNat % 16)] else [c]
/-- A text told. -/
def quoteL (l : List UInt8) : List UInt8 := 34 :: (l.flatMap qc ++ [34])
theorem qc_len (c : UInt8) : (qc c).length ≤ 6 := by unfold qc; split <;> (try split) <;> simp
theorem flatQ_len (l : List UInt8) : (l.flatMap qc).length ≤ 6 * l.length := by
  induction l with
  | nil => simp
  | cons x l ih => rw [List.flatMap_cons, List.length_append, List.length_cons]; have := qc_len x; omega
theorem and_u8_15 (n : Nat) (h : n < 256) : bits .and .u8 (n : Int) 15 = (n : Int) % 16 := by
  have h1 : (BitVec.ofInt 8 15).toNat = 2 ^ 4 - 1 := by decide
  have key : (BitVec.ofInt 8 (n : Int) &&& BitVec.ofInt 8 15).toNat = ((n : Int) % ((2 ^ 8 : Nat) : Int)).toNat % 2 ^ 4 := by
    rw [BitVec.toNat_and, BitVec.toNat_ofInt, h1, Nat.and_two_pow_sub_one_eq_mod]
  show IntKind.u8.wrap ((BitVec.ofInt 8 (n : Int) &&& BitVec.ofInt 8 15).toNat : Nat) = (n : Int) % 16
  rw [key, IntKind.wrap_u8]
  omega
theorem dig_cut (k : Nat) (h : k < 16) : (ByteArray.mk #[48, 49, 50, 51, 52, 53, 54, 55, 56, 57, 97, 98, 99, 100, 101, 102]).extract k (k + 1) = ⟨#[hexD k]⟩ := by
  have : ∀ k : Fin 16, (ByteArray.mk #[48, 49, 50, 51, 52, 53, 54, 55, 56, 57, 97, 98, 99, 100, 101, 102]).extract k (k + 1) = ⟨#[hexD k]⟩ := by decide
  exact this ⟨k, h⟩
theorem flat_step (s : ByteArray) {i : Nat} (h : i < s.size) : (s.data.toList.take (i + 1)).flatMap qc = (s.data.toList.take i).flatMap qc ++ qc s[i] := by
  rw [List.take_succ_eq_append_getElem (by simpa using h), List.flatMap_append]
  simp
  rfl
theorem one_cut (s : ByteArray) {i : Nat} (h : i < s.size) : (ByteArray.mk #[92] ++ s.extract i (i + 1)).data.toList = [92, s[i]] := by
  have h1 : i < s.data.size := h
  have : s.data.extract i (i + 1) = #[s.data[i]] := by
    apply Array.ext
    · simp; omega
    · intro j h1 h2
      simp at h1 h2
      obtain rfl : j = 0 := by omega
      simp
  rw [ByteArray.data_append, ByteArray.data_extract, this]
  rfl
set_option maxHeartbeats 1000000 in
set_option maxRecDepth 100000 in
theorem text_ok (s : ByteArray) (w : World) (hs : 6 * s.size + 2 ≤ 140737488355328) :
    Calls Tryz.prog 36 #[.string s] w fun e w' => e = .returned (.string ⟨(quoteL s.data.toList).toArray⟩) ∧ Frm No w w' := by
  go_enter Tryz.func36, Tryz.ntmps36
  go_wp2_with (fail)
  have hb0 : Bld (w.alloc (.cells #[.pointer none, .slice none 0 0] 115 (0, 0))) w.heap.size w.heap.size [] := .inl ⟨Nat.le_refl _, none, 0, 0, heap_alloc_new w _, Ow.nil _ _ _ _ _⟩
  refine (writeByte_ok hb0 34 rfl (by simp) (by simp)).mono ?_
  rintro e w1 ⟨rfl, hb1, f1⟩
  have F1 : Frm (fun k => w.heap.size ≤ k) w w1 := ((Frm.refl _ w).al _).trans f1
  rw [List.nil_append] at hb1
  clear hb0 f1
  go_wp2_with (fail)
  go_loopg [9] (s.size + 1) (fun g iv wr => ∃ i : Nat, iv = .int .i64 i ∧ i ≤ s.size ∧ g = s.size - i + 1 ∧ Bld wr w.heap.size w.heap.size (34 :: (s.data.toList.take i).flatMap qc) ∧ Frm (fun k => w.heap.size ≤ k) w wr)
  case atStart => exact ⟨0, rfl, Nat.zero_le _, by omega, hb1, F1⟩
  case round =>
    clear hb1 F1
    obtain ⟨i, rfl, hi, hg, B, F⟩ := hrel
    have hG := Lib.hid hg
    clear hg
    have hsz := F.size
    by_cases hlt : i < s.size
    · have l1 : i < s.data.toList.length := by simpa using hlt
      have hlen : (34 :: (s.data.toList.take i).flatMap qc).length ≤ 6 * i + 1 := by
        have h1 := flatQ_len (s.data.toList.take i)
        rw [List.length_take_of_le (by omega)] at h1
        rw [List.length_cons]; omega
      have cb : s[i].toNat < 256 := s[i].toNat_lt
      have hst := flat_step s hlt
      have HST := Lib.hid hst
      have hql := qc_len s[i]
      have HQL := Lib.hid hql
      clear hst hql
      by_cases q1 : s[i].toNat = 34 ∨ s[i].toNat = 92
      · have HQ : Hid (qc s[i] = [92, s[i]]) := Lib.hid (if_pos q1)
        have hq : ((s[i].toNat : Int) == 34) = true ∨ (((s[i].toNat : Int) == 34) = false ∧ ((s[i].toNat : Int) == 92) = true) := by rcases q1 with h | h <;> simp [h]
        have HS : Hid ((ByteArray.mk #[92] ++ s.extract i (i + 1)).data.toList = [92, s[i]]) := Lib.hid (one_cut s hlt)
        have HZ : (ByteArray.mk #[92] ++ s.extract i (i + 1)).size = 2 := by rw [← ByteArray.size_data, ← Array.length_toList, HS.out]; rfl
        clear q1
        rcases hq with b1 | ⟨b1, b2⟩
        all_goals
          go_wp2_with (fail)
          refine (writeString_ok B _ hsz (by rw [HZ]; omega)).mono ?_
          rintro e w2 ⟨rfl, B2, f2⟩
          rw [HS.out, ← HQ.out, List.cons_append, ← HST.out] at B2
          have F2 := F.trans f2
          clear HZ B F f2
          go_wp2_with (fail)
          go_roundg (s.size - (i + 1) + 1)
          case measure => have := hG.out; omega
          case rel => exact ⟨i + 1, by go_num, by omega, rfl, B2, F2⟩
      by_cases q2 : s[i].toNat < 32 ∨ 126 < s[i].toNat
      · have HQ : Hid (qc s[i] = [92, 117, 48, 48, hexD (s[i].toNat / 16), hexD (s[i].toNat % 16)]) := Lib.hid (by unfold qc; rw [if_neg q1, if_pos q2])
        have b1 : ((s[i].toNat : Int) == 34) = false := by simp; omega
        have b2 : ((s[i].toNat : Int) == 92) = false := by simp; omega
        have hq : ((s[i].toNat : Int) < 32) ∨ (¬ ((s[i].toNat : Int) < 32) ∧ (126 : Int) < s[i].toNat) := by omega
        clear q1 q2
        rcases hq with q3 | ⟨q3, q4⟩
        all_goals
          go_wp2_with (fail)
          have w1 : IntKind.u8.wrap ((s[i].toNat : Int) / 16 + 1) = (s[i].toNat : Int) / 16 + 1 := by rw [IntKind.wrap_u8]; omega
          have w2 : (s[i].toNat : Int) / 16 + 1 ≤ 16 := by omega
          have w3 : 0 ≤ (s[i].toNat : Int) / 16 := by omega
          have w4 : bits .and .u8 (s[i].toNat : Int) 15 = (s[i].toNat : Int) % 16 := and_u8_15 _ cb
          have w5 : IntKind.u8.wrap ((s[i].toNat : Int) % 16 + 1) = (s[i].toNat : Int) % 16 + 1 := by rw [IntKind.wrap_u8]; omega
          have w6 : (s[i].toNat : Int) % 16 + 1 ≤ 16 := by omega
          have w7 : 0 ≤ (s[i].toNat : Int) % 16 := by omega
          have w8 : 0 ≤ (s[i].toNat : Int) / 16 + 1 := by omega
          have w9 : (s[i].toNat : Int) / 16 ≤ (s[i].toNat : Int) / 16 + 1 := by omega
          have w10 : 0 ≤ (s[i].toNat : Int) % 16 + 1 := by omega
          have w11 : (s[i].toNat : Int) % 16 ≤ (s[i].toNat : Int) % 16 + 1 := by omega
          obtain ⟨Z1, hZ1⟩ : ∃ Z : ByteArray, Hid (Z = ⟨#[hexD (s[i].toNat / 16)]⟩) := ⟨_, Lib.hid rfl⟩
          obtain ⟨Z2, hZ2⟩ : ∃ Z : ByteArray, Hid (Z = ⟨#[hexD (s[i].toNat % 16)]⟩) := ⟨_, Lib.hid rfl⟩
          have z1 : Z1.size = 1 := by rw [hZ1.out]; rfl
          have z2 : Z2.size = 1 := by rw [hZ2.out]; rfl
          have x1 : (ByteArray.mk #[48, 49, 50, 51, 52, 53, 54, 55, 56, 57, 97, 98, 99, 100, 101, 102]).extract ((s[i].toNat : Int) / 16).toNat ((s[i].toNat : Int) / 16 + 1).toNat = Z1 := by
            rw [hZ1.out, show ((s[i].toNat : Int) / 16).toNat = s[i].toNat / 16 by omega, show ((s[i].toNat : Int) / 16 + 1).toNat = s[i].toNat / 16 + 1 by omega]
            exact dig_cut _ (by omega)
          have x2 : (ByteArray.mk #[48, 49, 50, 51, 52, 53, 54, 55, 56, 57, 97, 98, 99, 100, 101, 102]).extract ((s[i].toNat : Int) % 16).toNat ((s[i].toNat : Int) % 16 + 1).toNat = Z2 := by
            rw [hZ2.out, show ((s[i].toNat : Int) % 16).toNat = s[i].toNat % 16 by omega, show ((s[i].toNat : Int) % 16 + 1).toNat = s[i].toNat % 16 + 1 by omega]
            exact dig_cut _ (by omega)
          go_still_tail 14, (by kernel_rfl)
          change wpList _ _ _ _ _ wr.drew
          clear w1 w2 w3 w4 w5 w6 w7 w8 w9 w10 w11
          have B2 : Bld wr.drew w.heap.size w.heap.size (34 :: (s.data.toList.take i).flatMap qc) := B.no (Frm.drew No wr)
          have F2 : Frm (fun k => w.heap.size ≤ k) w wr.drew := F.trans (Frm.drew _ wr)
          clear B F hsz
          revert B2 F2
          generalize wr.drew = w2
          intro B F
          have hsz := F.size
          go_wp2_with (fail)
          refine (writeString_ok B _ hsz (by rw [ByteArray.size_append, ByteArray.size_append, z1, z2]; show _ + (4 + 1 + 1) ≤ _; omega)).mono ?_
          rintro e w3 ⟨rfl, B3, f3⟩
          have e3 : (ByteArray.mk #[92, 117, 48, 48] ++ Z1 ++ Z2).data.toList = qc s[i] := by
            rw [HQ.out, hZ1.out, hZ2.out]
            simp [ByteArray.data_append]
          rw [e3, List.cons_append, ← HST.out] at B3
          have F3 := F.trans f3
          clear B F f3 z1 z2 x1 x2 e3
          go_wp2_with (fail)
          go_roundg (s.size - (i + 1) + 1)
          case measure => have := hG.out; omega
          case rel => exact ⟨i + 1, by go_num, by omega, rfl, B3, F3⟩
      · have HQ : Hid (qc s[i] = [s[i]]) := Lib.hid (by unfold qc; rw [if_neg q1, if_neg q2])
        have b1 : ((s[i].toNat : Int) == 34) = false := by simp; omega
        have b2 : ((s[i].toNat : Int) == 92) = false := by simp; omega
        have b3 : ¬ ((s[i].toNat : Int) < 32) := by omega
        have b4 : ¬ ((126 : Int) < s[i].toNat) := by omega
        clear q1 q2
        go_wp2_with (fail)
        refine (writeByte_ok B s[i] rfl hsz (by omega)).mono ?_
        rintro e w2 ⟨rfl, B2, f2⟩
        rw [← HQ.out, List.cons_append, ← HST.out] at B2
        have F2 := F.trans f2
        clear B F f2
        go_wp2_with (fail)
        go_roundg (s.size - (i + 1) + 1)
        case measure => have := hG.out; omega
        case rel => exact ⟨i + 1, by go_num, by omega, rfl, B2, F2⟩
    · have hi2 : ¬ ((i : Int) < s.size) := by omega
      have ht : s.data.toList.take i = s.data.toList := List.take_of_length_le (by rw [Array.length_toList]; show s.size ≤ i; omega)
      rw [ht] at B
      have hlen : (34 :: s.data.toList.flatMap qc).length ≤ 6 * s.size + 1 := by
        have h1 := flatQ_len s.data.toList
        rw [List.length_cons]
        have e : s.data.toList.length = s.size := Array.length_toList
        omega
      clear ht
      go_wp2_with (fail)
      refine (writeByte_ok B 34 rfl hsz (by omega)).mono ?_
      rintro e w2 ⟨rfl, B2, f2⟩
      have F2 := F.trans f2
      have z2 := F2.size
      clear B F f2
      go_wp2_with (fail)
      refine (bldString_ok B2 (by simp) z2).mono ?_
      rintro e w3 ⟨rfl, f3⟩
      go_wp2_with (fail)
      go_ret
      exact ⟨rfl, (F2.trans f3).mono fun k hk h => absurd h (by omega)⟩
end Go.Proofs.YtofikfkgiblblaaGreatDoor

/- A whole struct stored into its block, in one step. No program in sight. -/
namespace Go.Tt
set_option linter.unusedVariables false
set_option linter.unusedSimpArgs false
open Go.RowKit Go.Lib
section
variable {P : Program}
theorem run_sto (w : World) {b : Nat} {cs : Array Value} {vs : List Value} {t : TypeId} (hB : w.heap[b]? = some (.cells cs t (0, 0))) (hi : (P.info? t).map (·.size) = some vs.length) (hl : cs.size = vs.length) (one : ∀ v ∈ vs, v.oneCell' = true) :
    (Instr.storeAt t (.pointer (some ⟨b, 0, none⟩)) (.agg vs.toArray)).run P w = .ok () (w.setRow b vs.toArray) := by
  obtain ⟨i, hi', hs⟩ := Option.map_eq_some_iff.1 hi
  have hst := run_storeCells_at P b 0 t vs 0 cs w hB (by omega) one
  have e : (cs.toList.take (0 + 0) ++ vs ++ cs.toList.drop (0 + 0 + vs.length)).toArray = vs.toArray := by
    rw [List.drop_of_length_le (by rw [Array.length_toList]; omega)]
    simp
  rw [e] at hst
  simp [Instr.storeAt, Instr.sureAddr, storeVar, sizeOf, typeInfo, hi', hs, Value.cells, hst]
theorem wpList_sto (w : World) {ops : Array Oper} {rest : List Oper} {o : Oper} {a : Act} {Q : Exit → Act → World → Prop} (hgd : o.guard = none) (p x : Operand) (t : TypeId) (ho : o.op = .store t p x)
    {b : Nat} {cs : Array Value} {vs : List Value} (hB : w.heap[b]? = some (.cells cs t (0, 0))) (hi : (P.info? t).map (·.size) = some vs.length) (hl : cs.size = vs.length) (one : ∀ v ∈ vs, v.oneCell' = true)
    (hp : a.eval p = .pointer (some ⟨b, 0, none⟩)) (hx : a.eval x = .agg vs.toArray)
    (h : ∀ w', w'.heap[b]? = some (.cells vs.toArray t (0, 0)) → Frm (fun k => k = b) w w' → w'.heap.size = w.heap.size → wpList P ops Q rest (a.put o.dst undef) w') : wpList P ops Q (o :: rest) a w := by
  refine wpList_plain hgd fun K hK => ?_
  have hr := run_sto (P := P) w hB hi hl one
  unfold Oper.wp
  simp [execOp, ho, hp, hx, hr, Result.andThen]
  exact hK _ _ (h _ (setRow_heap w b cs _ t _ hB) ⟨rfl, rfl, rfl, by simp, fun k _ hk => setRow_other w b k _ hk⟩ (by simp))
end
end Go.Tt

/- xs[k:] of what reads, in one step. No program in sight. -/
namespace Go.Tt
set_option linter.unusedVariables false
set_option linter.unusedSimpArgs false
open Go.RowKit Go.Lib
section
variable {P : Program} {α : Type}
theorem Enc.flat_drop (E : Enc α) (l : List α) (k : Nat) (hk : k ≤ l.length) : ∀ m u, (E.flat (l.drop k))[m]? = some u → (E.flat l)[k * E.k + m]? = some u := by
  intro m u hu
  have e : E.flat l = E.flat (l.take k) ++ E.flat (l.drop k) := by rw [← E.flat_append, List.take_append_drop]
  have hl : (E.flat (l.take k)).length = k * E.k := by rw [E.flat_len, List.length_take, Nat.min_eq_left hk]
  rw [e, List.getElem?_append_right (by omega), hl, Nat.add_sub_cancel_left]
  exact hu
theorem RdS_sliced {w : World} {E : Enc α} {a : Option Addr} {n c k : Nat} {l : List α} (h : RdS w E (.slice a n c) l) (hk : k ≤ n) : ∃ a' c', sliced a k n c E.k = .slice a' (n - k) c' ∧ RdS w E (.slice a' (n - k) c') (l.drop k) := by
  obtain ⟨a', c', h1, h2, h3, h4, h5⟩ := h
  simp only [Value.slice.injEq] at h1
  obtain ⟨rfl, rfl, rfl⟩ := h1
  refine ⟨_, _, rfl, _, _, by rw [List.length_drop], by rw [List.length_drop]; omega, by omega, ?_, ?_⟩
  · intro he
    by_cases hc : c = k
    · rw [List.length_drop]; omega
    · rw [if_neg hc] at he
      have : a = none := by simpa using he
      have := h4 this
      rw [List.length_drop]; omega
  · rw [List.length_drop]
    intro hpos
    obtain ⟨b, off, rfl, hcell⟩ := h5 (by omega)
    rw [if_neg (by omega)]
    refine ⟨b, off + k * E.k, by simp [Addr.add_lit], fun m u hu => ?_⟩
    rw [Nat.add_assoc]
    exact hcell _ u (E.flat_drop l k hk m u hu)
theorem wpList_from (w : World) {ops : Array Oper} {rest : List Oper} {o : Oper} {a : Act} {Q : Exit → Act → World → Prop} (hgd : o.guard = none) (x lo : Operand) (t e : TypeId) (ho : o.op = .slice t x (some lo) none none)
    {E : Enc α} (ht : P.underlying t = some (.slice e)) (he : P.elem t = e) (hi : (P.info? e).map (·.size) = some E.k) {s : Option Addr} {n c k : Nat} {l : List α} (h : RdS w E (.slice s n c) l) (hk : k ≤ n) (hx : a.eval x = .slice s n c) (hl : a.eval lo = .int .i64 k)
    (hK : ∀ a' c', RdS w E (.slice a' (n - k) c') (l.drop k) → wpList P ops Q rest (a.put o.dst (.slice a' (n - k) c')) w) : wpList P ops Q (o :: rest) a w := by
  refine wpList_plain hgd fun K hK' => ?_
  obtain ⟨a', c', e1, e2⟩ := RdS_sliced h hk
  obtain ⟨i, hi', hs⟩ := Option.map_eq_some_iff.1 hi
  subst he
  have hr : (Instr.sliceAt t (.slice s n c) (some (.int .i64 (k : Int))) none none).run P w = .ok (.slice a' (n - k) c') w := by
    rw [run_sliceAt_slice w t _ _ _ _ ht, run_slice_l w t s n c ht .i64 k (by omega) (by omega)]
    simp [sizeOf, typeInfo, hi', hs, e1]
  unfold Oper.wp
  simp [execOp, ho, hx, hl, hr, Result.andThen]
  exact hK' _ _ (hK a' c' e2)
end
end Go.Tt

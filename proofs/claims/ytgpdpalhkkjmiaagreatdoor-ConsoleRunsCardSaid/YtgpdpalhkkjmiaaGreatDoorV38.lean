/- Merged: ConLs0 RefT ConSe. -/
import Derived.Test.YtgpdpalhkkjmiaaGreatDoorV21
import Derived.Test.YtgpdpalhkkjmiaaGreatDoorV22
import Derived.Test.YtgpdpalhkkjmiaaGreatDoorV24
import Derived.Test.YtgpdpalhkkjmiaaGreatDoorV37
/- ConsoleLists: the plain law. -/
namespace Go.Proofs.YtgpdpalhkkjmiaaGreatDoor
set_option linter.unusedVariables false
set_option linter.unusedSimpArgs false
set_option linter.unusedVariables false
set_option linter.unusedSimpArgs false
open Go.RowKit Go.Lib Go.Tt Go.Shelf
/-- A pick: a word to put, or (none) one to take away. -/
def lpW : Option Nat → List UInt8
  | none => [45, 120]
  | some k => w8 k
def lpB (p : Option Nat) : ByteArray := ⟨(lpW p).toArray⟩
theorem dig_ok : ∀ (k : Nat) (x : UInt8), x ∈ Lib.decDigits k → 48 ≤ x.toNat ∧ x.toNat ≤ 57 := by
  intro k
  induction k using Nat.strongRecOn with
  | _ k ih =>
    intro x hx
    rw [Lib.decDigits.eq_1] at hx
    by_cases h : k < 10
    · rw [dif_pos h, List.mem_singleton] at hx
      subst hx
      simp only [UInt8.toNat_ofNat']
      omega
    · rw [dif_neg h, List.mem_append, List.mem_singleton] at hx
      rcases hx with hx | rfl
      · exact ih (k / 10) (by omega) x hx
      · simp only [UInt8.toNat_ofNat']
        omega
theorem lpW_ok (p : Option Nat) : lpW p ≠ [] ∧ ∀ x ∈ lpW p, wsB x = false ∧ x ≠ 10 := by
  cases p with
  | none => exact ⟨by decide, by decide⟩
  | some k =>
    refine ⟨by unfold lpW w8; simp, fun x hx => ?_⟩
    unfold lpW w8 at hx
    rw [List.mem_cons] at hx
    rcases hx with rfl | hx
    · decide
    · have h := dig_ok k x hx
      refine ⟨by unfold wsB; rw [Bool.or_eq_false_iff, beq_eq_false_iff_ne, beq_eq_false_iff_ne]; omega, fun e => ?_⟩
      subst e
      exact absurd h.1 (by decide)
theorem w8B_dash' (k : Nat) : dashB (w8B k) = false := by
  unfold dashB w8B w8 hasPrefix
  simp [List.isPrefixOf]
/-- The row behind picks. -/
def rowL : List (Option Nat) → List Nat → List Nat
  | [], r => r
  | none :: t, r => rowL t r.tail
  | some k :: t, r => rowL t (r ++ [k])
theorem rowL_app : ∀ (ps : List (Option Nat)) (r : List Nat) (p : Option Nat), rowL (ps ++ [p]) r = match p with | none => (rowL ps r).tail | some k => rowL ps r ++ [k]
  | [], r, p => by cases p <;> rfl
  | none :: t, r, p => by rw [List.cons_append]; exact rowL_app t _ p
  | some k :: t, r, p => by rw [List.cons_append]; exact rowL_app t _ p
/-- The list's elements that are not gone tell the row. -/
def livW (l : List El) : List ByteArray := valsL l
theorem livW_era (l : List El) : livW (eraFst l) = (livW l).tail := by
  unfold livW valsL mapV
  induction l with
  | nil => rfl
  | cons x t ih =>
    unfold eraFst
    cases hx : x.2.2.2.2 with
    | true =>
      rw [if_pos rfl, List.filter_cons_of_neg (by rw [hx]; decide), List.filter_cons_of_neg (by rw [hx]; decide)]
      exact ih
    | false =>
      rw [if_neg (by decide), List.filter_cons_of_neg (by unfold goneEl; simp), List.filter_cons_of_pos (by rw [hx]; decide)]
      rfl
theorem livW_new (l : List El) (i : Nat) (w : ByteArray) : livW (l ++ [newEl i w]) = livW l ++ [w] := by
  unfold livW valsL mapV
  rw [List.filter_append, List.map_append]
  rfl
theorem w8B_sz {k : Nat} (hk : k ≤ 1023) : (w8B k).size ≤ 22 := by
  have h1 : (Lib.decDigits k).length ≤ 21 := by
    have := Lib.itoa_length_le (k : Int) (by omega) (by omega)
    rw [Lib.itoa, if_neg (by omega), Int.toNat_natCast] at this
    exact this
  unfold w8B w8
  rw [size_eq]
  simp
  omega
theorem listS_lp {l : List El} {i : Nat} {p : Option Nat} (hp : ∀ k, p = some k → k ≤ 1023) : ∃ l', listS i l (lpB p) = some l' ∧ livW l' = match p with | none => (livW l).tail | some k => livW l ++ [w8B k] := by
  cases p with
  | none => exact ⟨eraFst l, listS_dash (by kernel_rfl), livW_era l⟩
  | some k => exact ⟨l ++ [newEl i (w8B k)], listS_put (w8B_dash' k) (Nat.le_trans (w8B_sz (hp k rfl)) (by omega)), livW_new l i (w8B k)⟩
/-- The law's loop: picks so far, the row. -/
def ListsW (i : Nat) (S : ByteArray) (r : List Nat) : Prop := ∃ (ps : List (Option Nat)) (l : List El), ps.length = i ∧ (∀ k ∈ r, k ≤ 1023) ∧ S.data.toList = nList ++ ps.flatMap (fun p => 32 :: lpW p) ∧ listG 0 [] (ps.map lpB) = some l ∧ livW l = r.map w8B ∧ S.size ≤ 4 + 40 * i ∧ r.length ≤ i
theorem ListsW.nil : ListsW 0 ⟨#[108, 105, 115, 116]⟩ [] := ⟨[], [], rfl, by simp, rfl, rfl, rfl, by decide, Nat.le_refl _⟩
theorem ListsW.step {i : Nat} {S : ByteArray} {r : List Nat} (h : ListsW i S r) (p : Option Nat) (hp : ∀ k, p = some k → k ≤ 1023) {S' : ByteArray} (hS : S'.data.toList = S.data.toList ++ 32 :: lpW p) : ListsW (i + 1) S' (match p with | none => r.tail | some k => r ++ [k]) := by
  obtain ⟨ps, l, h1, h2, h3, h4, h5, h6, h7⟩ := h
  obtain ⟨l', hl', hv⟩ := listS_lp (l := l) (i := 0 + (ps.map lpB).length) hp
  refine ⟨ps ++ [p], l', by rw [List.length_append, h1]; rfl, ?_, ?_, ?_, ?_, ?_, ?_⟩
  · cases p with
    | none => exact fun k hk => h2 k (List.mem_of_mem_tail hk)
    | some k =>
      intro j hj
      rw [List.mem_append, List.mem_singleton] at hj
      rcases hj with hj | rfl
      · exact h2 j hj
      · exact hp _ rfl
  · rw [hS, h3, List.flatMap_append]; simp
  · rw [List.map_append, List.map_cons, List.map_nil, listG_app, h4]
    exact hl'
  · rw [hv, h5]
    cases p with
    | none => rw [List.map_tail]
    | some k => rw [List.map_append]; rfl
  · have hl : (lpW p).length ≤ 22 := by
      cases p with
      | none => decide
      | some k =>
        have := w8B_sz (hp k rfl)
        rw [size_eq] at this
        exact this
    have : S'.size = S.size + (1 + (lpW p).length) := by
      rw [size_eq, hS, List.length_append, List.length_cons, ← size_eq]; omega
    omega
  · cases p with
    | none => rw [List.length_tail]; omega
    | some k => rw [List.length_append, List.length_cons, List.length_nil]; omega
/-- What the row tells. -/
def toldR (r : List Nat) (n : Nat) : List UInt8 := joinT ((r.take n).map w8B) [32]
theorem ListsW.fin {i : Nat} {S : ByteArray} {r : List Nat} (h : ListsW i S r) : runL S.data.toList = toldR r r.length ++ [10] := by
  obtain ⟨ps, l, h1, h2, h3, h4, h5, h6, h7⟩ := h
  have e : ps.flatMap (fun p => 32 :: lpW p) = (ps.map lpW).flatMap fun v => 32 :: v := by rw [List.flatMap_map]
  rw [h3, e, run_line (w := nList) ⟨by decide, by decide⟩ (fun v hv => by
    rw [List.mem_map] at hv
    obtain ⟨p, hp, rfl⟩ := hv
    exact lpW_ok p) (by decide)]
  have ht : tellL nList ((ps.map lpW).map fun v => ⟨v.toArray⟩) = listT (ps.map lpB) := by
    rw [List.map_map]; rfl
  rw [ht]
  unfold listT toldR
  rw [h4, List.take_length, ← h5]
  rfl
theorem toldR_step (r : List Nat) {n : Nat} (h : n < r.length) : toldR r (n + 1) = if n = 0 then w8 r[n] else toldR r n ++ (32 :: w8 r[n]) := by
  unfold toldR
  rw [List.take_succ_eq_append_getElem h, List.map_append, List.map_cons, List.map_nil, joinT_snoc]
  by_cases h0 : n = 0
  · subst h0; rfl
  · rw [if_neg h0, if_neg]
    · rfl
    · intro e
      have := congrArg List.length e
      rw [List.length_map, List.length_take, List.length_nil] at this
      omega
theorem toldR_len (r : List Nat) (hr : ∀ k ∈ r, k ≤ 1023) : ∀ n, n ≤ r.length → (toldR r n).length ≤ 30 * n
  | 0, _ => by unfold toldR; simp [joinT_nil]
  | n + 1, h => by
    have ih := toldR_len r hr n (by omega)
    have hw := w8B_sz (hr _ (List.getElem_mem (show n < r.length by omega)))
    rw [size_eq] at hw
    have hw : (w8 r[n]).length ≤ 22 := hw
    rw [toldR_step r (by omega)]
    split
    · omega
    · rw [List.length_append, List.length_cons]; omega
end Go.Proofs.YtgpdpalhkkjmiaaGreatDoor

/- The reference's texts: Decimal, Number. -/
namespace Go.Proofs.YtgpdpalhkkjmiaaGreatDoor
set_option linter.unusedVariables false
set_option linter.unusedSimpArgs false
open Go.RowKit Go.Lib Go.Tt Go.Shelf
set_option maxRecDepth 100000 in
theorem conv_ow {w : World} {F : Nat → Prop} {o : Option Addr} {n c : Nat} {l : List UInt8} (O : Ow w F 5 eU8 (.slice o n c) l) (hl : l ≠ []) :
    (convert 27 9 (.slice o n c)).run Tryz.prog w = .ok (.string ⟨l.toArray⟩) w := by
  obtain ⟨rfl, -⟩ := O.cap
  rcases O with ⟨a, e, h⟩ | ⟨h, -⟩
  · exact absurd h hl
  · refine conv_own (B := 0) ?_
    rw [eU8_flat] at h
    exact h
/-- Digits laid so far: of n, where u is left. -/
def DInv (n u : Nat) (l : List UInt8) : Prop := (l = [] ∧ u = n) ∨ (l ≠ [] ∧ (if u = 0 then [] else Lib.decDigits u) ++ l = Lib.decDigits n)
theorem DInv.step {n u : Nat} {l : List UInt8} (h : DInv n u l) (hu : 0 < u ∨ l = []) : DInv n (u / 10) (UInt8.ofNat (48 + u % 10) :: l) := by
  refine .inr ⟨by simp, ?_⟩
  have key : (if u / 10 = 0 then [] else Lib.decDigits (u / 10)) ++ [UInt8.ofNat (48 + u % 10)] = Lib.decDigits u := by
    rw [Lib.decDigits.eq_1 u]
    by_cases h9 : u < 10
    · rw [if_pos (by omega), dif_pos h9, Nat.mod_eq_of_lt h9]; rfl
    · rw [if_neg (by omega), dif_neg h9]
  rw [List.append_cons, key]
  rcases h with ⟨rfl, rfl⟩ | ⟨h1, h2⟩
  · rw [List.append_nil]
  · have : u ≠ 0 := by rcases hu with h | h; exact (by omega); exact absurd h h1
    rw [if_neg this] at h2
    exact h2
theorem DInv.done {n : Nat} {l : List UInt8} (h : DInv n 0 l) (hl : l ≠ []) : l = Lib.decDigits n := by
  rcases h with ⟨h, -⟩ | ⟨-, h⟩
  · exact absurd h hl
  · rw [if_pos rfl] at h; exact h
theorem DInv.len {n u : Nat} {l : List UInt8} (h : DInv n u l) : l.length ≤ (Lib.decDigits n).length := by
  rcases h with ⟨rfl, -⟩ | ⟨-, h⟩
  · exact Nat.zero_le _
  · rw [← h, List.length_append]; omega
theorem dig_len {n : Nat} (hn : n ≤ 4611686018427387904) : (Lib.decDigits n).length ≤ 21 := by
  have := Lib.itoa_length_le (n : Int) (by omega) (by omega)
  rw [Lib.itoa, if_neg (by omega), Int.toNat_natCast] at this
  exact this
set_option maxHeartbeats 1000000 in
set_option maxRecDepth 100000 in
theorem refDecimal_ok (n : Nat) (hn : n ≤ 4611686018427387904) (w : World) : Calls Tryz.prog 14 #[.int .i64 n] w fun e w' => e = .returned (.string ⟨(Lib.decDigits n).toArray⟩) ∧ Frm No w w' := by
  have hn0 : ¬ ((n : Int) < 0) := by omega
  have hw : IntKind.u64.wrap (n : Int) = n := by rw [IntKind.wrap_u64]; omega
  have HL := Lib.hid (dig_len hn)
  go_enter Tryz.func14, Tryz.ntmps14
  go_wp2
  go_loopg [3, 4] (n + 1 + 1) (fun g xv ov wr => ∃ (u : Nat) (l : List UInt8) (o : Option Addr) (c : Nat), xv = .int .u64 u ∧ ov = .slice o l.length c ∧ g = u + (if l = [] then 1 else 0) + 1 ∧ u ≤ n ∧ DInv n u l ∧ Ow wr (fun k => w.heap.size ≤ k) 5 eU8 (.slice o l.length c) l ∧ Frm No w wr)
  case atStart => exact ⟨n, [], none, 0, rfl, rfl, by rw [if_pos rfl], Nat.le_refl _, .inl ⟨rfl, rfl⟩, Ow.nil _ _ _ _ _, Frm.refl No w⟩
  case round =>
    obtain ⟨u, l, o, c, rfl, rfl, hg, hun, hI, O, F⟩ := hrel
    have hG := Lib.hid hg
    have HI := Lib.hid hI
    clear hg
    have hll : l.length ≤ 21 := Nat.le_trans hI.len HL.out
    clear hI
    by_cases hu : 0 < u ∨ l = []
    · obtain ⟨r, hr⟩ : ∃ r, Hid (r = u % 10) := ⟨_, Lib.hid rfl⟩
      obtain ⟨q, hq⟩ : ∃ q, Hid (q = u / 10) := ⟨_, Lib.hid rfl⟩
      have hr9 : r < 10 := by have := hr.out; omega
      have h3 : (u : Int) % 10 = r := by have := hr.out; omega
      have h4 : (u : Int) / 10 = q := by have := hq.out; omega
      have h5 : IntKind.u64.wrap (48 + (r : Int)) = 48 + r := by rw [IntKind.wrap_u64]; omega
      have h6 : IntKind.u8.wrap (48 + (r : Int)) = 48 + r := by simp [IntKind.wrap, IntKind.bits, IntKind.signed]; omega
      have h7 : Int.tmod (u : Int) 10 = r := by rw [Int.tmod_eq_emod_of_nonneg (by omega)]; exact h3
      have h8 : Int.tdiv (u : Int) 10 = q := by rw [Int.tdiv_eq_ediv_of_nonneg (by omega)]; exact h4
      have h9 : IntKind.u64.wrap (r : Int) = r := by rw [IntKind.wrap_u64]; omega
      have h10 : IntKind.u64.wrap (q : Int) = q := by have := hq.out; rw [IntKind.wrap_u64]; omega
      obtain ⟨d, hd⟩ : ∃ d : UInt8, Hid (d = UInt8.ofNat (48 + r)) := ⟨_, Lib.hid rfl⟩
      have hu8 : Hid ((d.toNat : Int) = 48 + r) := Lib.hid (by rw [hd.out]; simp [UInt8.toNat_ofNat']; omega)
      have o0 : Ow (wr.alloc (.cells #[.int .u8 (48 + (r : Int))] 5 (0, 0))) (fun k => w.heap.size ≤ k ∧ wr.heap.size ≤ k) 5 eU8 (.slice (some ⟨wr.heap.size, 0, none⟩) 1 1) [d] :=
        Ow.row (l := [d]) (heap_alloc_new wr _) ⟨F.size, Nat.le_refl _⟩ (Nat.le_refl _) (by decide) rfl (by show [Value.int .u8 (48 + (r : Int))] = eU8.flat [d]; rw [← hu8.out]; rfl)
      have rd := (O.al (.cells #[.int .u8 (48 + (r : Int))] 5 (0, 0))).rd
      have hF := F.size
      have hcase : 0 < u ∨ ¬ 0 < u := Nat.lt_or_ge 0 u |>.imp id (by omega)
      rcases hcase with hp | hp
      · have hp' : 0 < (u : Int) := by omega
        clear hu
        go_wp2_with (at_builtin; refine wpList_ap _ rfl (.tmp 25) (.tmp 26) 27 27 rfl 5 _ 1 Tryz.underlying27 i_u8e rfl o0 (rd.src Tryz.underlying27) rfl rfl rfl (by show 1 + l.length ≤ maxLen; unfold maxLen; omega) (by show (1 + l.length) * 1 ≤ 140737488355328; omega) ?_)
        intro a1 c1 w1 o1 f1
        have F1 : Frm No w w1 := (F.al _).then f1 fun k hk hh => by omega
        go_wp2
        go_roundg (q + (if d :: l = [] then 1 else 0) + 1)
        case measure => have := hG.out; have := hq.out; rw [if_neg (by simp)]; omega
        case rel => exact ⟨q, d :: l, a1, c1, rfl, by rw [List.length_cons, Nat.add_comm], rfl, by have := hq.out; omega, by rw [hq.out, hd.out, hr.out]; exact HI.out.step (.inl hp), by rw [List.length_cons, Nat.add_comm l.length 1]; exact o1.mono fun k _ hh => by rcases hh with hh | hh; exact hh.1; have := hh.1; simp at this; omega, F1⟩
      · obtain rfl : u = 0 := by omega
        obtain rfl : l = [] := hu.resolve_left hp
        have hr0 : r = 0 := by have := hr.out; omega
        have hq0 : q = 0 := by have := hq.out; omega
        subst hr0 hq0
        clear hu hp h3 h4 h5 h7 h8 h9 h10
        go_wp2_with (at_builtin; refine wpList_ap _ rfl (.tmp 25) (.tmp 26) 27 27 rfl 5 _ 1 Tryz.underlying27 i_u8e rfl o0 (rd.src Tryz.underlying27) rfl rfl rfl (by show 1 + 0 ≤ maxLen; unfold maxLen; omega) (by show (1 + 0) * 1 ≤ 140737488355328; omega) ?_)
        intro a1 c1 w1 o1 f1
        have F1 : Frm No w w1 := (F.al _).then f1 fun k hk hh => by omega
        go_wp2
        go_roundg (0 + (if d :: [] = ([] : List UInt8) then 1 else 0) + 1)
        case measure => have := hG.out; simp at this ⊢; omega
        case rel => exact ⟨0, [d], a1, c1, rfl, rfl, rfl, Nat.zero_le _, by rw [hd.out]; exact HI.out.step (.inr rfl), o1.mono fun k _ hh => by rcases hh with hh | hh; exact hh.1; have := hh.1; simp at this; omega, F1⟩
    · have hu0 : u = 0 := by omega
      subst hu0
      have hl : l ≠ [] := fun e => hu (.inr e)
      have hl0 : ¬ (l.length : Int) = 0 := by cases l with | nil => exact absurd rfl hl | cons a l => simp; omega
      have hcv := conv_ow O hl
      have he := Lib.hid (HI.out.done hl)
      clear hu hl
      go_wp2
      go_ret
      exact ⟨congrArg (fun b : List UInt8 => Ending.returned (Value.string ⟨b.toArray⟩)) he.out, F⟩
theorem itoa_dec {n : Int} (h : 0 ≤ n) : Lib.itoa n = Lib.decDigits n.toNat := by rw [Lib.itoa, if_neg (by omega)]
set_option maxRecDepth 100000 in
theorem refNumber_ok (n : Int) (h1 : -4611686018427387904 ≤ n) (h2 : n ≤ 4611686018427387904) (w : World) : Calls Tryz.prog 52 #[.int .i64 n] w fun e w' => e = .returned (.string ⟨(Lib.itoa n).toArray⟩) ∧ Frm No w w' := by
  by_cases hn : n < 0
  · obtain ⟨m, hm⟩ : ∃ m : Nat, n = -(m : Int) := ⟨n.natAbs, by omega⟩
    subst hm
    have W := Lib.hid (fun W => refDecimal_ok m (by omega) W)
    have hi : Hid (Lib.itoa (-(m : Int)) = 45 :: Lib.decDigits m) := Lib.hid (by rw [Lib.itoa, if_pos hn]; congr 1; congr 1; omega)
    have hw : IntKind.i64.wrap (m : Int) = m := by rw [IntKind.wrap_i64]; omega
    have hlen := dig_len (n := m) (by omega)
    have hs : ¬ ((9223372036854775807 : Int) < ((⟨#[45]⟩ : ByteArray).size + (⟨(Lib.decDigits m).toArray⟩ : ByteArray).size : Nat)) := by show ¬ ((9223372036854775807 : Int) < ((1 + (Lib.decDigits m).toArray.size : Nat) : Int)); rw [List.size_toArray]; omega
    rw [hi.out]
    clear h1 h2 hlen
    obtain ⟨T, hT⟩ : ∃ T : ByteArray, Hid (T = ⟨(Lib.decDigits m).toArray⟩) := ⟨_, Lib.hid rfl⟩
    rw [← hT.out] at W hs
    go_enter Tryz.func52, Tryz.ntmps52
    go_wp2_with (fail)
    refine (W.out _).mono ?_
    rintro e w1 ⟨rfl, f1⟩
    go_wp2_with (fail)
    go_ret
    exact ⟨congrArg (fun b => Ending.returned (Value.string b)) (by rw [hT.out]; exact ByteArray.ext (Array.ext' (by simp))), f1⟩
  · have W := Lib.hid (fun W => refDecimal_ok n.toNat (by omega) W)
    rw [itoa_dec (by omega)]
    rw [show ((n.toNat : Nat) : Int) = n by omega] at W
    go_enter Tryz.func52, Tryz.ntmps52
    go_wp2_with (fail)
    refine (W.out _).mono ?_
    rintro e w1 ⟨rfl, f1⟩
    go_wp2_with (fail)
    go_ret
    exact ⟨rfl, f1⟩
end Go.Proofs.YtgpdpalhkkjmiaaGreatDoor

/- ConsoleSets, walked. -/
namespace Go.Proofs.YtgpdpalhkkjmiaaGreatDoor
set_option linter.unusedVariables false
set_option linter.unusedSimpArgs false
open Go.RowKit Go.Lib Go.Tt Go.Shelf Go.WideShapes
theorem w8_str (k : Nat) : (⟨#[119]⟩ : ByteArray) ++ ⟨(Lib.decDigits k).toArray⟩ = w8B k := by
  unfold w8B w8
  apply ByteArray.ext
  simp [ByteArray.data_append]
theorem dec_sz {k : Nat} (h : k ≤ 1023) : (⟨(Lib.decDigits k).toArray⟩ : ByteArray).size ≤ 21 := by
  have h1 := dig_len (n := k) (by omega)
  rw [size_eq]; exact h1
set_option maxHeartbeats 8000000 in
set_option maxRecDepth 100000 in
theorem consoleSets_ok {w : World} (ht : Tab w) {a : Option Addr} {n c : Nat} {zs : List Int} (hz : RdS w eInt (.slice a n c) zs) (hzb : zs.length ≤ 140737488355328) : Calls Tryz.prog 6 #[.slice a n c] w fun e w' => e = .returned (.bool true) ∧ Frm No w w' := by
  have H0 := conAwake_ok ht
  have HT := Lib.hid ht
  have hn := hz.facts
  have HN := Lib.hid hn.1
  have R1 := Lib.hid hz
  have hle : n ≤ 140737488355328 := by rw [hn.1]; exact hzb
  clear hn hz ht hzb
  go_enter Tryz.func6, Tryz.ntmps6
  go_wp2_with (fail)
  refine H0.mono ?_
  rintro e w0 ⟨rfl, f0⟩
  clear H0
  go_wp2_with (fail)
  go_loopg [3, 5] (30 + 1) (fun gg sv iv wr => ∃ (i : Nat) (S : ByteArray) (fl : List Bool), iv = .int .i64 i ∧ sv = .string S ∧ i ≤ 30 ∧ gg = 30 - i + 1 ∧ Frm No w0 wr ∧ wr.heap[w0.heap.size]? = some (.cells (fl.map Value.bool).toArray 36 (0, 0)) ∧ SetsW i S fl)
  case atStart => exact ⟨0, _, _, rfl, rfl, by omega, rfl, (Frm.refl No _).al _, heap_alloc_new w0 _, SetsW.nil⟩
  case round =>
    obtain ⟨i, S, fl, rfl, rfl, hi, hg, F, B, M⟩ := hrel
    have hG := Lib.hid hg
    have hsz : S.size ≤ 3000 ∧ fl.length = 8 := by
      obtain ⟨ps, l, h1, h2, h3, h4, h5, h6⟩ := M
      exact ⟨by omega, h5.len⟩
    have HM := Lib.hid M
    have hS := hsz.1
    have HFL := Lib.hid hsz.2
    have FF := f0.trans F
    have nB := lt_of_block B
    clear hg M hsz
    by_cases h12 : i < n ∧ i < 30
    · obtain ⟨h1, h2⟩ := h12
      have l1 : i < zs.length := by rw [← HN.out]; exact h1
      obtain ⟨b, off, rfl, hbb, hc⟩ := (R1.out.no FF).at l1
      have e0 : wr.cell? ⟨b, off + i, none⟩ = some (.int .i64 zs[i]) := by have := hc 0 _ rfl; rwa [show off + (i * eInt.k + 0) = off + i from by show off + (i * 1 + 0) = off + i; omega] at this
      clear hc
      obtain ⟨z, hz⟩ : ∃ z, Hid (z = zs[i]) := ⟨_, Lib.hid rfl⟩
      rw [← hz.out] at e0
      obtain ⟨k, hk, hk7⟩ := mask_nat 7 z _ (and_7 z)
      have HD := Lib.hid (refDecimal_ok k (by omega))
      obtain ⟨dk, hdk⟩ : ∃ dk : ByteArray, Hid (dk = ⟨(Lib.decDigits k).toArray⟩) := ⟨_, Lib.hid rfl⟩
      have hdz : dk.size ≤ 21 := by rw [hdk.out]; exact dec_sz (by omega)
      rw [← hdk.out] at HD
      go_wp2_with (fail)
      refine (HD.out _).mono ?_
      rintro e w1 ⟨rfl, f1⟩
      have e1 : w1.cell? ⟨b, off + i, none⟩ = some (.int .i64 z) := (f1.cell (World.block_lt_of_cell? _ _ e0) id).trans e0
      have B1 := f1.obj B id
      have nB1 := lt_of_block B1
      have z1 := obj_frz B1
      have c1 : w1.cell? ⟨w0.heap.size, k, none⟩ = some (.bool (fl.getD k false)) := by
        rw [obj_cell B1, List.getElem?_toArray, List.getElem?_map, List.getElem?_eq_getElem (show k < fl.length by rw [HFL.out]; omega), List.getD_eq_getElem?_getD, List.getElem?_eq_getElem (show k < fl.length by rw [HFL.out]; omega)]
        rfl
      obtain ⟨fk, hfk⟩ : ∃ fk, Hid (fk = fl.getD k false) := ⟨_, Lib.hid rfl⟩
      rw [← hfk.out] at c1
      have HB1 : ∀ b : Bool, (w1.setCell ⟨w0.heap.size, k, none⟩ (.bool b)).heap[w0.heap.size]? = some (.cells ((fl.set k b).map Value.bool).toArray 36 (0, 0)) := fun b => by
        rw [obj_setCell B1 (.bool b), List.map_set, List.setIfInBounds_toArray]
      have HB1 := Lib.hid HB1
      clear e0
      obtain ⟨d, hd, hd3⟩ := mask_nat 3 (z / 8) _ (and_3 (z / 8))
      by_cases h3 : d = 3
      · have q : ((d : Int) == 3) = true := by rw [h3]; rfl
        have HS1 : Hid (SetsW (i + 1) (S ++ ⟨#[32, 45]⟩ ++ (⟨#[119]⟩ ++ dk)) (fl.set k (!true))) := Lib.hid (HM.out.step (by omega) true (by
          rw [hdk.out]
          simp [ByteArray.data_append, pickW, w8]))
        clear h3
        go_wp2_with (fail)
        go_roundg (30 - (i + 1) + 1)
        case measure => have := hG.out; omega
        case rel => exact ⟨i + 1, _, fl.set k false, by go_num, rfl, by omega, rfl, (F.trans f1).st (Nat.le_refl _) _ _, HB1.out false, HS1.out⟩
      · have q : ((d : Int) == 3) = false := by simp; omega
        have HS1 : Hid (SetsW (i + 1) (S ++ ⟨#[32]⟩ ++ (⟨#[119]⟩ ++ dk)) (fl.set k (!false))) := Lib.hid (HM.out.step (by omega) false (by
          rw [hdk.out]
          simp [ByteArray.data_append, pickW, w8]))
        clear h3
        go_wp2_with (fail)
        go_roundg (30 - (i + 1) + 1)
        case measure => have := hG.out; omega
        case rel => exact ⟨i + 1, _, fl.set k true, by go_num, rfl, by omega, rfl, (F.trans f1).st (Nat.le_refl _) _ _, HB1.out true, HS1.out⟩
    · have HR := Lib.hid (fun W (f : Frm No w W) => run_ok (HT.out.frm f) S (by omega))
      obtain ⟨R, hR⟩ : ∃ R : ByteArray, Hid (R = ⟨(runL S.data.toList).toArray⟩) := ⟨_, Lib.hid rfl⟩
      rw [← hR.out] at HR
      have HRF : Hid (R.data.toList = toldF fl 8 ++ [10]) := Lib.hid (by rw [hR.out]; exact HM.out.fin)
      obtain ⟨wm, hwm⟩ : ∃ wm, wm = wr := ⟨_, rfl⟩
      have Bm : wm.heap[w0.heap.size]? = some (.cells (fl.map Value.bool).toArray 36 (0, 0)) := by rw [hwm]; exact B
      have Fm : Frm No w wm := by rw [hwm]; exact FF
      clear B F FF nB
      subst hwm
      have hout : (decide ((i : Int) < n) && decide ((i : Int) < 30)) = false := by
        rw [Bool.and_eq_false_iff]
        by_cases h1 : i < n
        · exact .inr (by simp; omega)
        · exact .inl (by simp; omega)
      by_cases h1 : i < n
      all_goals
        go_wp2_with (fail)
        go_loopg [8, 9] (8 + 1) (fun gg sv iv wr => ∃ (k : Nat) (W : ByteArray), iv = .int .i64 k ∧ sv = .string W ∧ k ≤ 8 ∧ gg = 8 - k + 1 ∧ Frm No wm wr ∧ Hid (W.data.toList = toldF fl k))
        case atStart => exact ⟨0, ⟨#[]⟩, rfl, rfl, by omega, rfl, Frm.refl _ _, Lib.hid (by unfold toldF inL; rfl)⟩
        case round =>
          obtain ⟨k, W, rfl, rfl, hk, hg, F, hW⟩ := hrel
          have hG := Lib.hid hg
          have hWs : W.size ≤ 100 := by
            have := toldF_len fl k hk
            rw [size_eq, hW.out]; omega
          have FF := Fm.trans F
          clear hg
          by_cases hk8 : k < 8
          · have Br := F.obj Bm id
            have c1 : wr.cell? ⟨w0.heap.size, k, none⟩ = some (.bool (fl.getD k false)) := by
              rw [obj_cell Br, List.getElem?_toArray, List.getElem?_map, List.getElem?_eq_getElem (show k < fl.length by rw [HFL.out]; omega), List.getD_eq_getElem?_getD, List.getElem?_eq_getElem (show k < fl.length by rw [HFL.out]; omega)]
              rfl
            have hst := toldF_step fl k
            have hnil := toldF_nil (fl := fl) hk
            cases hfk : fl.getD k false with
            | false =>
              rw [hfk] at c1 hst
              have HST := Lib.hid hst
              clear hfk hst hnil
              go_wp2_with (fail)
              go_roundg (8 - (k + 1) + 1)
              case measure => have := hG.out; omega
              case rel => exact ⟨k + 1, W, by go_num, rfl, by omega, rfl, F, Lib.hid (by rw [hW.out, HST.out]; rfl)⟩
            | true =>
              rw [hfk, if_pos rfl] at hst
              rw [hfk] at c1
              have HD := Lib.hid (refDecimal_ok k (by omega))
              obtain ⟨dk, hdk⟩ : ∃ dk : ByteArray, Hid (dk = ⟨(Lib.decDigits k).toArray⟩) := ⟨_, Lib.hid rfl⟩
              have hdz : dk.size ≤ 21 := by rw [hdk.out]; exact dec_sz (by omega)
              rw [← hdk.out] at HD
              by_cases h0 : inL fl k = []
              · rw [if_pos h0] at hst
                have he : W.toList = [] := by rw [ByteArray.toList_eq, hW.out]; exact hnil.2 h0
                have HST : Hid ((W ++ ⟨#[119]⟩ ++ dk).data.toList = toldF fl (k + 1)) := Lib.hid (by
                  rw [hst, hdk.out]
                  have : W.data.toList = [] := by rw [hW.out]; exact hnil.2 h0
                  simp [ByteArray.data_append, this, w8])
                clear hst h0 hnil hfk
                go_wp2_with (fail)
                refine (HD.out _).mono ?_
                rintro e w1 ⟨rfl, f1⟩
                go_wp2_with (fail)
                go_roundg (8 - (k + 1) + 1)
                case measure => have := hG.out; omega
                case rel => exact ⟨k + 1, _, by go_num, rfl, by omega, rfl, F.trans f1, HST⟩
              · rw [if_neg h0] at hst
                have he : W.toList.isEmpty = false := by
                  have h2 : W.data.toList ≠ [] := by rw [hW.out]; exact fun h => h0 (hnil.1 h)
                  rw [ByteArray.toList_eq]
                  cases h : W.data.toList with
                  | nil => exact absurd h h2
                  | cons => rfl
                have HST : Hid ((W ++ ⟨#[32]⟩ ++ ⟨#[119]⟩ ++ dk).data.toList = toldF fl (k + 1)) := Lib.hid (by
                  rw [hst, hdk.out, ← hW.out]
                  simp [ByteArray.data_append, w8])
                clear hst h0 hnil hfk
                go_wp2_with (fail)
                refine (HD.out _).mono ?_
                rintro e w1 ⟨rfl, f1⟩
                go_wp2_with (fail)
                go_roundg (8 - (k + 1) + 1)
                case measure => have := hG.out; omega
                case rel => exact ⟨k + 1, _, by go_num, rfl, by omega, rfl, F.trans f1, HST⟩
          · obtain rfl : k = 8 := by omega
            have hRW : R = W ++ (⟨#[10]⟩ : ByteArray) := data_inj (by rw [HRF.out, ← hW.out]; simp [ByteArray.data_append])
            have HRR := HR.out _ FF
            rw [hRW] at HRR
            have HRR := Lib.hid HRR
            clear hRW
            go_wp2_with (fail)
            refine HRR.out.mono ?_
            rintro e w1 ⟨rfl, f1⟩
            go_wp2_with (fail)
            refine (num_ok 0 _).mono ?_
            rintro e w2 ⟨rfl, rfl⟩
            go_wp2_with (fail)
            go_ret
            exact ⟨rfl, FF.trans f1⟩
set_option maxRecDepth 100000 in
theorem consoleSets_row {base : Nat} (w : World) (ht : Tab w) {v0 : Value} (ok0 : Value.okWide Tryz.prog w .any base 33 v0) (h0 : Rd Tryz.prog w 33 v0.cells.toList) : Calls Tryz.prog 6 #[v0] w fun e w' => e = .returned (.bool true) ∧ Below w.heap.size w w' := by
  obtain ⟨a, n, c, l, rfl, hl, hb⟩ := intsR_of ok0 h0
  exact (consoleSets_ok ht hl hb).mono fun e w' ⟨he, f⟩ => ⟨he, f.below (fun _ _ h => h) (Nat.le_refl _)⟩
end Go.Proofs.YtgpdpalhkkjmiaaGreatDoor

/- Merged: LForm15 LDec LLim15 LRows15b RowDLimits. -/
import Derived.Lib.ItoaLen
import Derived.Deep.CutBlock
import Derived.Test.YthaegncocdddfaaGreatDoorK20
import Derived.Test.YthaegncocdddfaaGreatDoorK39
/- The law DocForms, walked. -/
namespace Go.Proofs.YthaegncocdddfaaGreatDoor
set_option linter.unusedVariables false
set_option linter.unusedSimpArgs false
set_option linter.unusedVariables false
set_option linter.unusedSimpArgs false
open Go.RowKit Go.Lib Go.Tt
def badL : List ByteArray := [⟨#[]⟩, ⟨#[123, 125]⟩, ⟨#[123, 97]⟩, ⟨#[97]⟩, ⟨#[123, 97, 125, 125]⟩, ⟨#[123, 97, 58, 125]⟩, ⟨#[123, 97, 40, 41, 125]⟩, ⟨#[123, 97, 40, 98, 41, 125]⟩, ⟨#[123, 97, 40, 98, 58, 41, 125]⟩, ⟨#[123, 97, 40, 98, 58, 99, 41, 125]⟩, ⟨#[123, 97, 32, 64, 115, 107, 105, 112, 125]⟩, ⟨#[123, 97, 32, 64, 102, 111, 111, 40, 105, 102, 58, 116, 114, 117, 101, 41, 125]⟩, ⟨#[123, 97, 32, 64, 115, 107, 105, 112, 40, 111, 102, 58, 116, 114, 117, 101, 41, 125]⟩, ⟨#[123, 46, 46, 46, 125]⟩, ⟨#[113, 117, 101, 114, 121]⟩, ⟨#[113, 117, 101, 114, 121, 40, 41]⟩, ⟨#[113, 117, 101, 114, 121, 40, 36, 97, 41, 123, 97, 125]⟩, ⟨#[113, 117, 101, 114, 121, 40, 36, 97, 58, 70, 111, 111, 41, 123, 97, 125]⟩, ⟨#[113, 117, 101, 114, 121, 40, 41, 123, 97, 125]⟩, ⟨#[102, 114, 97, 103, 109, 101, 110, 116, 32, 70, 32, 111, 110, 32, 84, 123, 97, 125]⟩, ⟨#[123, 97, 125, 32, 102, 114, 97, 103, 109, 101, 110, 116, 32, 70, 32, 84, 123, 97, 125]⟩, ⟨#[123, 97, 125, 32, 102, 114, 97, 103, 109, 101, 110, 116, 32, 70, 32, 111, 110, 32, 84, 123, 125]⟩, ⟨#[123, 97, 125, 32, 123, 98, 125]⟩, ⟨#[115, 117, 98, 115, 99, 114, 105, 112, 116, 105, 111, 110, 123, 97, 125]⟩, ⟨#[109, 117, 116, 97, 116, 105, 111, 110, 32, 109, 32, 110, 123, 97, 125]⟩, ⟨#[123, 97, 40, 98, 58, 34, 120, 41, 125]⟩, ⟨#[123, 97, 37, 125]⟩]
def badW (k : Nat) : Int := if k = 25 then 1301 else if k = 26 then 1300 else 1500
def bad1 (k : Nat) : Int := if k = 25 then 1301 else 1500
def badGo : List ByteArray → Nat → Bool
  | [], _ => true
  | s :: ss, k => ((parseL s.data.toList).2 == badW k) && Nat.ble s.size 100 && badGo ss (k + 1)
theorem badGo_at : ∀ (ss : List ByteArray) (k : Nat), badGo ss k = true → ∀ (i : Nat) (h : i < ss.length), (parseL ss[i].data.toList).2 = badW (k + i) ∧ ss[i].size ≤ 100
  | s :: ss, k, h, 0, _ => by
    unfold badGo at h
    simp only [Bool.and_eq_true] at h
    exact ⟨by simpa using h.1.1, Nat.le_of_ble_eq_true h.1.2⟩
  | s :: ss, k, h, i + 1, hi => by
    unfold badGo at h
    simp only [Bool.and_eq_true] at h
    have := badGo_at ss (k + 1) h.2 i (by simpa using hi)
    rw [show k + (i + 1) = k + 1 + i from by omega]
    exact this
theorem bad_all : badGo badL 0 = true := by kernel_rfl
theorem wmod (n : Int) (m : Nat) (hm : 0 < m) (hm2 : m ≤ 1000) : ∃ k : Nat, k < m ∧ wrap64 ((IntKind.u64.wrap n).tmod m) = k := by
  have h0 : 0 ≤ IntKind.u64.wrap n := by rw [IntKind.wrap_u64]; omega
  rw [Int.tmod_eq_emod_of_nonneg h0]
  have h1 := Int.emod_nonneg (IntKind.u64.wrap n) (b := (m : Int)) (by omega)
  have h2 := Int.emod_lt_of_pos (IntKind.u64.wrap n) (b := (m : Int)) (by omega)
  refine ⟨((IntKind.u64.wrap n) % (m : Int)).toNat, by omega, ?_⟩
  rw [Int.toNat_of_nonneg h1]
  unfold wrap64
  omega
set_option maxHeartbeats 8000000 in
set_option maxRecDepth 100000 in
theorem forms_ok (n : Int) (w : World) (ht : Tab w) : Calls Tryz.prog 5 #[.int .i64 n] w fun e w' => e = .returned (.bool true) ∧ Frm No w w' := by
  obtain ⟨R, hR⟩ : ∃ R : Ending → World → Prop, R = fun e w' => e = .returned (.bool true) ∧ Frm No w w' := ⟨_, rfl⟩
  rw [← hR]
  have HQ := Lib.hid hR
  have hnot : ∀ (x : Bool) (w : World), (Op.unary .not (.bool x)).run Tryz.prog w = .ok (.bool (!x)) w := fun _ _ => rfl
  clear hR
  have H0 := awake_ok w ht
  obtain ⟨k, hk, hkw⟩ := wmod n 27 (by decide) (by decide)
  obtain ⟨s, hs⟩ : ∃ s, s = badL[k]'hk := ⟨_, rfl⟩
  have hpw := badGo_at badL 0 bad_all k hk
  rw [← hs, Nat.zero_add] at hpw
  have HW := Lib.hid hkw
  have HS := Lib.hid hs
  clear hkw hs
  go_enter Tryz.func5, Tryz.ntmps5
  go_wp2_with (fail)
  refine H0.mono ?_
  rintro e w0 ⟨rfl, f0⟩
  clear H0
  go_upto_region 6 with fail
  have hw2 : wrap64 ((IntKind.u64.wrap n).tmod 27) = (k : Int) := HW.out
  rw [hw2]
  clear hw2
  obtain ⟨W0, hW0⟩ : ∃ W, W = w0.alloc (.cells (badL.map Value.string).toArray 9) := ⟨_, rfl⟩
  have F0 : Frm No w W0 := by rw [hW0]; exact f0.al _
  have c0 : W0.cell? ⟨w0.heap.size, k, none⟩ = some (.string s) := by
    rw [hW0, obj_cell (heap_alloc_new w0 _), List.getElem?_toArray, List.getElem?_map, List.getElem?_eq_getElem hk, HS.out]
    rfl
  unfold badL at hW0
  simp only [List.map_cons, List.map_nil] at hW0
  rw [← hW0]
  clear hW0
  generalize w0.heap.size = g0 at c0 ⊢
  go_upto_if 16 with fail
  go_cut [5] (fun s5 wx => s5 = .int .i64 (bad1 k) ∧ wx = W0)
  case first =>
    by_cases h5 : k = 25
    · have q1 : ((k : Int) == 25) = true := by rw [beq_iff_eq]; omega
      rw [q1]
      have H5 := Lib.hid (show bad1 k = 1301 from if_pos h5)
      clear h5 q1
      go_wp2_with (fail)
      go_meet
      exact ⟨by rw [H5.out], rfl⟩
    · have q1 : ((k : Int) == 25) = false := by rw [beq_eq_false_iff_ne]; omega
      rw [q1]
      have H5 := Lib.hid (show bad1 k = 1500 from if_neg h5)
      clear h5 q1
      go_wp2_with (fail)
      go_meet
      exact ⟨by rw [H5.out], rfl⟩
  case rest =>
    obtain ⟨rfl, rfl⟩ := hcut
    go_upto_if 18 with fail
    go_cut [5] (fun s5 wx => s5 = .int .i64 (badW k) ∧ wc = wx)
    case first =>
      by_cases h5 : k = 26
      · have q1 : ((k : Int) == 26) = true := by rw [beq_iff_eq]; omega
        rw [q1]
        have H5 := Lib.hid (show badW k = 1300 from by rw [h5]; rfl)
        clear h5 q1
        go_wp2_with (fail)
        go_meet
        exact ⟨by rw [H5.out], rfl⟩
      · have q1 : ((k : Int) == 26) = false := by rw [beq_eq_false_iff_ne]; omega
        rw [q1]
        have H5 := Lib.hid (show badW k = bad1 k from by unfold badW bad1; rw [if_neg h5])
        clear h5 q1
        go_wp2_with (fail)
        go_meet
        exact ⟨by rw [H5.out], rfl⟩
    case rest =>
      obtain ⟨rfl, rfl⟩ := hcut
      have H1 := parse_c s wc (by omega)
      have hbad := parse_bad s.data.toList (by
        rw [hpw.1]
        unfold badW
        split
        · decide
        · split <;> decide)
      have hp : parseL s.data.toList = (emDm, badW k) := by
        rw [← hbad, ← hpw.1]
      rw [hp] at H1
      clear hbad hp hpw
      go_wp2_with (fail)
      refine H1.mono ?_
      rintro e w1 ⟨v1, rfl, O1, f1⟩
      have D1 := O1.rd
      obtain ⟨W1, hW1⟩ : ∃ W, W = w1.alloc (docB v1) := ⟨_, rfl⟩
      have X1 : W1.heap[w1.heap.size]? = some (docB v1) := by rw [hW1]; exact heap_alloc_new w1 _
      have F1 : Frm No w1 W1 := by rw [hW1]; exact (Frm.refl No w1).al _
      have D2 := D1.frm F1 fun _ _ _ h => h
      have G1 := (F0.trans f1).trans F1
      have HSM := sameDoc_ok D2 (rd_em W1)
      have p0 := obj_cell X1 0
      have p1 := obj_cell X1 1
      have p2 := obj_cell X1 2
      have p3 := obj_cell X1 3
      simp only [List.getElem?_toArray, List.getElem?_cons_succ, List.getElem?_cons_zero] at p0 p1 p2 p3
      have l1 := lt_of_block X1
      unfold docB at hW1
      unfold dval nsh at HSM
      unfold dval
      clear X1 D1 f1 F1 D2 H1 O1
      go_upto_region 11 with fail
      rw [← hW1]
      clear hW1
      go_wp2_with (fail)
      refine HSM.mono ?_
      rintro e w2 ⟨rfl, f2⟩
      clear HSM p0 p1 p2 p3 l1
      go_wp2_with (go_at_call 15; refine (num_ok _ _).mono ?_; rintro e w' ⟨rfl, rfl⟩)
      rw [HQ.out]
      exact ⟨rfl, G1.trans f2⟩
end Go.Proofs.YthaegncocdddfaaGreatDoor

/- The reference's Decimal, walked. -/
namespace Go.Proofs.YthaegncocdddfaaGreatDoor
set_option linter.unusedVariables false
set_option linter.unusedSimpArgs false
open Go.RowKit Go.Lib Go.Tt Go.Shelf
set_option maxRecDepth 100000 in
theorem conv_ow {w : World} {F : Nat → Prop} {o : Option Addr} {n c : Nat} {l : List UInt8} (O : Ow w F 5 eU8 (.slice o n c) l) (hl : l ≠ []) :
    (convert 58 9 (.slice o n c)).run Tryz.prog w = .ok (.string ⟨l.toArray⟩) w := by
  obtain ⟨rfl, -⟩ := O.cap
  rcases O with ⟨a, e, h⟩ | ⟨h, -⟩
  · exact absurd h hl
  · refine conv_own (B := 0) ?_
    rw [eU8_flat] at h
    exact h
/-- Digits laid so far: of n, where u is left. -/
def DInv (n u : Nat) (l : List UInt8) : Prop := (l = [] ∧ u = n) ∨ (l ≠ [] ∧ (if u = 0 then [] else Lib.decDigits u) ++ l = Lib.decDigits n)
theorem DInv.step {n u : Nat} {l : List UInt8} (h : DInv n u l) (hu : 0 < u ∨ l = []) : DInv n (u / 10) (UInt8.ofNat (48 + u % 10) :: l) := by
  refine .inr ⟨by simp, ?_⟩
  have key : (if u / 10 = 0 then [] else Lib.decDigits (u / 10)) ++ [UInt8.ofNat (48 + u % 10)] = Lib.decDigits u := by
    rw [Lib.decDigits.eq_1 u]
    by_cases h9 : u < 10
    · rw [if_pos (by omega), dif_pos h9, Nat.mod_eq_of_lt h9]; rfl
    · rw [if_neg (by omega), dif_neg h9]
  rw [List.append_cons, key]
  rcases h with ⟨rfl, rfl⟩ | ⟨h1, h2⟩
  · rw [List.append_nil]
  · have : u ≠ 0 := by rcases hu with h | h; exact (by omega); exact absurd h h1
    rw [if_neg this] at h2
    exact h2
theorem DInv.done {n : Nat} {l : List UInt8} (h : DInv n 0 l) (hl : l ≠ []) : l = Lib.decDigits n := by
  rcases h with ⟨h, -⟩ | ⟨-, h⟩
  · exact absurd h hl
  · rw [if_pos rfl] at h; exact h
theorem DInv.len {n u : Nat} {l : List UInt8} (h : DInv n u l) : l.length ≤ (Lib.decDigits n).length := by
  rcases h with ⟨rfl, -⟩ | ⟨-, h⟩
  · exact Nat.zero_le _
  · rw [← h, List.length_append]; omega
theorem dig_len {n : Nat} (hn : n ≤ 4611686018427387904) : (Lib.decDigits n).length ≤ 21 := by
  have := Lib.itoa_length_le (n : Int) (by omega) (by omega)
  rw [Lib.itoa, if_neg (by omega), Int.toNat_natCast] at this
  exact this
set_option maxHeartbeats 1000000 in
set_option maxRecDepth 100000 in
theorem refDecimal_ok (n : Nat) (hn : n ≤ 4611686018427387904) (w : World) : Calls Tryz.prog 18 #[.int .i64 n] w fun e w' => e = .returned (.string ⟨(Lib.decDigits n).toArray⟩) ∧ Frm No w w' := by
  have hn0 : ¬ ((n : Int) < 0) := by omega
  have hw : IntKind.u64.wrap (n : Int) = n := by rw [IntKind.wrap_u64]; omega
  have HL := Lib.hid (dig_len hn)
  go_enter Tryz.func18, Tryz.ntmps18
  go_wp2
  go_loopg [3, 4] (n + 1 + 1) (fun g xv ov wr => ∃ (u : Nat) (l : List UInt8) (o : Option Addr) (c : Nat), xv = .int .u64 u ∧ ov = .slice o l.length c ∧ g = u + (if l = [] then 1 else 0) + 1 ∧ u ≤ n ∧ DInv n u l ∧ Ow wr (fun k => w.heap.size ≤ k) 5 eU8 (.slice o l.length c) l ∧ Frm No w wr)
  case atStart => exact ⟨n, [], none, 0, rfl, rfl, by rw [if_pos rfl], Nat.le_refl _, .inl ⟨rfl, rfl⟩, Ow.nil _ _ _ _ _, Frm.refl No w⟩
  case round =>
    obtain ⟨u, l, o, c, rfl, rfl, hg, hun, hI, O, F⟩ := hrel
    have hG := Lib.hid hg
    have HI := Lib.hid hI
    clear hg
    have hll : l.length ≤ 21 := Nat.le_trans hI.len HL.out
    clear hI
    by_cases hu : 0 < u ∨ l = []
    · obtain ⟨r, hr⟩ : ∃ r, Hid (r = u % 10) := ⟨_, Lib.hid rfl⟩
      obtain ⟨q, hq⟩ : ∃ q, Hid (q = u / 10) := ⟨_, Lib.hid rfl⟩
      have hr9 : r < 10 := by have := hr.out; omega
      have h3 : (u : Int) % 10 = r := by have := hr.out; omega
      have h4 : (u : Int) / 10 = q := by have := hq.out; omega
      have h5 : IntKind.u64.wrap (48 + (r : Int)) = 48 + r := by rw [IntKind.wrap_u64]; omega
      have h6 : IntKind.u8.wrap (48 + (r : Int)) = 48 + r := by simp [IntKind.wrap, IntKind.bits, IntKind.signed]; omega
      have h7 : Int.tmod (u : Int) 10 = r := by rw [Int.tmod_eq_emod_of_nonneg (by omega)]; exact h3
      have h8 : Int.tdiv (u : Int) 10 = q := by rw [Int.tdiv_eq_ediv_of_nonneg (by omega)]; exact h4
      have h9 : IntKind.u64.wrap (r : Int) = r := by rw [IntKind.wrap_u64]; omega
      have h10 : IntKind.u64.wrap (q : Int) = q := by have := hq.out; rw [IntKind.wrap_u64]; omega
      obtain ⟨d, hd⟩ : ∃ d : UInt8, Hid (d = UInt8.ofNat (48 + r)) := ⟨_, Lib.hid rfl⟩
      have hu8 : Hid ((d.toNat : Int) = 48 + r) := Lib.hid (by rw [hd.out]; simp [UInt8.toNat_ofNat']; omega)
      have o0 : Ow (wr.alloc (.cells #[.int .u8 (48 + (r : Int))] 5 (0, 0))) (fun k => w.heap.size ≤ k ∧ wr.heap.size ≤ k) 5 eU8 (.slice (some ⟨wr.heap.size, 0, none⟩) 1 1) [d] :=
        Ow.row (l := [d]) (heap_alloc_new wr _) ⟨F.size, Nat.le_refl _⟩ (Nat.le_refl _) (by decide) rfl (by show [Value.int .u8 (48 + (r : Int))] = eU8.flat [d]; rw [← hu8.out]; rfl)
      have rd := (O.al (.cells #[.int .u8 (48 + (r : Int))] 5 (0, 0))).rd
      have hF := F.size
      have hcase : 0 < u ∨ ¬ 0 < u := Nat.lt_or_ge 0 u |>.imp id (by omega)
      rcases hcase with hp | hp
      · have hp' : 0 < (u : Int) := by omega
        clear hu
        go_wp2_with (at_builtin; refine wpList_ap _ rfl (.tmp 25) (.tmp 26) 58 58 rfl 5 _ 1 Tryz.underlying58 i_u8e rfl o0 (rd.src Tryz.underlying58) rfl rfl rfl (by show 1 + l.length ≤ maxLen; unfold maxLen; omega) (by show (1 + l.length) * 1 ≤ 140737488355328; omega) ?_)
        intro a1 c1 w1 o1 f1
        have F1 : Frm No w w1 := (F.al _).then f1 fun k hk hh => by omega
        go_wp2
        go_roundg (q + (if d :: l = [] then 1 else 0) + 1)
        case measure => have := hG.out; have := hq.out; rw [if_neg (by simp)]; omega
        case rel => exact ⟨q, d :: l, a1, c1, rfl, by rw [List.length_cons, Nat.add_comm], rfl, by have := hq.out; omega, by rw [hq.out, hd.out, hr.out]; exact HI.out.step (.inl hp), by rw [List.length_cons, Nat.add_comm l.length 1]; exact o1.mono fun k _ hh => by rcases hh with hh | hh; exact hh.1; have := hh.1; simp at this; omega, F1⟩
      · obtain rfl : u = 0 := by omega
        obtain rfl : l = [] := hu.resolve_left hp
        have hr0 : r = 0 := by have := hr.out; omega
        have hq0 : q = 0 := by have := hq.out; omega
        subst hr0 hq0
        clear hu hp h3 h4 h5 h7 h8 h9 h10
        go_wp2_with (at_builtin; refine wpList_ap _ rfl (.tmp 25) (.tmp 26) 58 58 rfl 5 _ 1 Tryz.underlying58 i_u8e rfl o0 (rd.src Tryz.underlying58) rfl rfl rfl (by show 1 + 0 ≤ maxLen; unfold maxLen; omega) (by show (1 + 0) * 1 ≤ 140737488355328; omega) ?_)
        intro a1 c1 w1 o1 f1
        have F1 : Frm No w w1 := (F.al _).then f1 fun k hk hh => by omega
        go_wp2
        go_roundg (0 + (if d :: [] = ([] : List UInt8) then 1 else 0) + 1)
        case measure => have := hG.out; simp at this ⊢; omega
        case rel => exact ⟨0, [d], a1, c1, rfl, rfl, rfl, Nat.zero_le _, by rw [hd.out]; exact HI.out.step (.inr rfl), o1.mono fun k _ hh => by rcases hh with hh | hh; exact hh.1; have := hh.1; simp at this; omega, F1⟩
    · have hu0 : u = 0 := by omega
      subst hu0
      have hl : l ≠ [] := fun e => hu (.inr e)
      have hl0 : ¬ (l.length : Int) = 0 := by cases l with | nil => exact absurd rfl hl | cons a l => simp; omega
      have hcv := conv_ow O hl
      have he := Lib.hid (HI.out.done hl)
      clear hu hl
      go_wp2
      go_ret
      exact ⟨congrArg (fun b : List UInt8 => Ending.returned (Value.string ⟨b.toArray⟩)) he.out, F⟩
end Go.Proofs.YthaegncocdddfaaGreatDoor

/- The law DocLimits, walked. -/
namespace Go.Proofs.YthaegncocdddfaaGreatDoor
set_option linter.unusedVariables false
set_option linter.unusedSimpArgs false
open Go.RowKit Go.Lib Go.Tt
theorem ba_app (a b : List UInt8) : (⟨a.toArray⟩ : ByteArray) ++ (⟨b.toArray⟩ : ByteArray) = ⟨(a ++ b).toArray⟩ := by
  apply ByteArray.ext
  apply Array.toList_inj.1
  rw [ByteArray.data_append, Array.toList_append]
def g0 : Nat → List UInt8
  | 0 => [97]
  | i + 1 => [97, 123] ++ g0 i ++ [125]
theorem g0_len : ∀ (i : Nat), i ≤ 100 → (g0 i).length ≤ 40 + 50 * i
  | 0, _ => by decide
  | i + 1, h => by
    have := g0_len i (by omega)
    show ([97, 123] ++ g0 i ++ [125]).length ≤ _
    simp only [List.length_append, List.length_cons, List.length_nil]
    omega
def g1 : Nat → List UInt8
  | 0 => [113, 117, 101, 114, 121, 40, 36, 97, 58, 73, 110, 116]
  | i + 1 => g1 i ++ [32, 36, 97] ++ Lib.decDigits (i + 1) ++ [58, 73, 110, 116]
theorem g1_len : ∀ (i : Nat), i ≤ 100 → (g1 i).length ≤ 40 + 50 * i
  | 0, _ => by decide
  | i + 1, h => by
    have := g1_len i (by omega)
    have hd := dig_len (n := i + 1) (by omega)
    show (g1 i ++ [32, 36, 97] ++ Lib.decDigits (i + 1) ++ [58, 73, 110, 116]).length ≤ _
    simp only [List.length_append, List.length_cons, List.length_nil]
    omega
def g2 : Nat → List UInt8
  | 0 => [123, 97, 125]
  | i + 1 => g2 i ++ [102, 114, 97, 103, 109, 101, 110, 116, 32, 70] ++ Lib.decDigits (i + 0) ++ [32, 111, 110, 32, 84, 123, 97, 125]
theorem g2_len : ∀ (i : Nat), i ≤ 100 → (g2 i).length ≤ 40 + 50 * i
  | 0, _ => by decide
  | i + 1, h => by
    have := g2_len i (by omega)
    have hd := dig_len (n := i + 0) (by omega)
    show (g2 i ++ [102, 114, 97, 103, 109, 101, 110, 116, 32, 70] ++ Lib.decDigits (i + 0) ++ [32, 111, 110, 32, 84, 123, 97, 125]).length ≤ _
    simp only [List.length_append, List.length_cons, List.length_nil]
    omega
def g3 : Nat → List UInt8
  | 0 => [123]
  | i + 1 => g3 i ++ [97, 32]
theorem g3_len : ∀ (i : Nat), i ≤ 100 → (g3 i).length ≤ 40 + 50 * i
  | 0, _ => by decide
  | i + 1, h => by
    have := g3_len i (by omega)
    show (g3 i ++ [97, 32]).length ≤ _
    simp only [List.length_append, List.length_cons, List.length_nil]
    omega
def g4 : Nat → List UInt8
  | 0 => [123, 97, 40, 98, 58, 49]
  | i + 1 => g4 i ++ [32, 98, 58, 49]
theorem g4_len : ∀ (i : Nat), i ≤ 100 → (g4 i).length ≤ 40 + 50 * i
  | 0, _ => by decide
  | i + 1, h => by
    have := g4_len i (by omega)
    show (g4 i ++ [32, 98, 58, 49]).length ≤ _
    simp only [List.length_append, List.length_cons, List.length_nil]
    omega
def g5 : Nat → List UInt8
  | 0 => [123, 97]
  | i + 1 => g5 i ++ [32, 64, 115, 107, 105, 112, 40, 105, 102, 58, 116, 114, 117, 101, 41]
theorem g5_len : ∀ (i : Nat), i ≤ 100 → (g5 i).length ≤ 40 + 50 * i
  | 0, _ => by decide
  | i + 1, h => by
    have := g5_len i (by omega)
    show (g5 i ++ [32, 64, 115, 107, 105, 112, 40, 105, 102, 58, 116, 114, 117, 101, 41]).length ≤ _
    simp only [List.length_append, List.length_cons, List.length_nil]
    omega
def famL (j k : Nat) : List UInt8 :=
  match j with
  | 0 => [123] ++ g0 k ++ [125]
  | 1 => g1 (k - 1) ++ [41, 123, 97, 125]
  | 2 => g2 k
  | 3 => g3 (k + 58) ++ [125]
  | 4 => g4 (k - 1) ++ [41, 125]
  | _ => g5 k ++ [125]
def limK (j k : Nat) : Nat := match j with | 0 => k + 1 | 3 => k + 58 | _ => k
def limM (j : Nat) : Nat := match j with | 0 => 4 | 1 => 8 | 2 => 8 | 3 => 64 | 4 => 6 | _ => 2
def limW (j : Nat) : Int := match j with | 0 => 1501 | _ => 1502
def limOk (j k : Nat) : Bool := let r := parseL (famL j k); Nat.ble (famL j k).length 100000 && (if Nat.ble (limM j + 1) (limK j k) then r.2 == limW j else (r.2 == 0 && Nat.ble 1 r.1.sels.length))
theorem lim_all : ((List.range 6).all fun j => (List.range 12).all fun k => limOk j k) = true := by kernel_rfl
theorem lim_at {j k : Nat} (hj : j < 6) (hk : k < 12) : (famL j k).length ≤ 100000 ∧ (limM j < limK j k → (parseL (famL j k)).2 = limW j) ∧ (¬ limM j < limK j k → (parseL (famL j k)).2 = 0 ∧ 0 < (parseL (famL j k)).1.sels.length) := by
  have h := List.all_eq_true.1 (List.all_eq_true.1 lim_all j (List.mem_range.2 hj)) k (List.mem_range.2 hk)
  unfold limOk at h
  simp only [Bool.and_eq_true] at h
  refine ⟨Nat.le_of_ble_eq_true h.1, fun hm => ?_, fun hm => ?_⟩
  · have h2 := h.2
    rw [if_pos (Nat.ble_eq_true_of_le hm)] at h2
    simpa using h2
  · have h2 := h.2
    rw [if_neg (fun h => hm (Nat.le_of_ble_eq_true h))] at h2
    simp only [Bool.and_eq_true, beq_iff_eq] at h2
    exact ⟨h2.1, Nat.le_of_ble_eq_true h2.2⟩
theorem wmodu (n : Int) (m : Nat) (hm : 0 < m) : ∃ k : Nat, k < m ∧ (IntKind.u64.wrap n).tmod m = k := by
  have h0 : 0 ≤ IntKind.u64.wrap n := by rw [IntKind.wrap_u64]; omega
  rw [Int.tmod_eq_emod_of_nonneg h0]
  have h1 := Int.emod_nonneg (IntKind.u64.wrap n) (b := (m : Int)) (by omega)
  have h2 := Int.emod_lt_of_pos (IntKind.u64.wrap n) (b := (m : Int)) (by omega)
  exact ⟨((IntKind.u64.wrap n) % (m : Int)).toNat, by omega, by omega⟩
set_option maxHeartbeats 16000000 in
set_option maxRecDepth 100000 in
theorem limits_law (n x : Int) (w : World) (ht : Tab w) : Calls Tryz.prog 6 #[.int .i64 n, .int .i64 x] w fun e w' => e = .returned (.bool true) ∧ Frm No w w' := by
  obtain ⟨R, hR⟩ : ∃ R : Ending → World → Prop, R = fun e w' => e = .returned (.bool true) ∧ Frm No w w' := ⟨_, rfl⟩
  rw [← hR]
  have HQ := Lib.hid hR
  have hnot : ∀ (x : Bool) (w : World), (Op.unary .not (.bool x)).run Tryz.prog w = .ok (.bool (!x)) w := fun _ _ => rfl
  clear hR
  have H0 := awake_ok w ht
  obtain ⟨k, hk, hkw⟩ := wmod x 12 (by decide) (by decide)
  obtain ⟨j, hj, hjw⟩ := wmodu n 6 (by decide)
  have HK := Lib.hid hkw
  have HJW := Lib.hid hjw
  clear hkw hjw
  go_enter Tryz.func6, Tryz.ntmps6
  go_wp2_with (fail)
  refine H0.mono ?_
  rintro e w0 ⟨rfl, f0⟩
  clear H0
  go_upto_block 0 with fail
  have hk2 : wrap64 ((IntKind.u64.wrap x).tmod 12) = (k : Int) := HK.out
  have hj2 : (IntKind.u64.wrap n).tmod 6 = (j : Int) := HJW.out
  rw [hk2, hj2]
  clear hk2 hj2 HK HJW
  go_cut [5, 6, 7, 8] (fun s5 s6 s7 s8 wx => s5 = .int .i64 (limK j k : Nat) ∧ s6 = .string ⟨(famL j k).toArray⟩ ∧ s7 = .int .i64 (limM j : Nat) ∧ s8 = .int .i64 (limW j) ∧ Frm No w wx)
  case first =>
    obtain rfl | rfl | rfl | rfl | rfl | rfl : j = 0 ∨ j = 1 ∨ j = 2 ∨ j = 3 ∨ j = 4 ∨ j = 5 := by omega
    · go_wp2_with (fail)
      go_loopg [6, 9] (k - 0 + 1) (fun g sv iv wr => ∃ (i : Nat) (s : ByteArray), iv = .int .i64 i ∧ sv = .string s ∧ g = k - i + 1 ∧ 0 ≤ i ∧ i ≤ max k 0 ∧ s = ⟨(g0 i).toArray⟩ ∧ Frm No w wr)
      case atStart => exact ⟨0, _, rfl, rfl, by omega, Nat.le_refl _, Nat.le_max_right _ _, rfl, f0⟩
      case round =>
        obtain ⟨i, s, rfl, rfl, hg, hi0, hi, hs, f⟩ := hrel
        have hsz : s.size ≤ 10000 := by
          rw [hs, sz_list]
          have := g0_len (i) (by omega)
          omega
        have HG := Lib.hid hg
        have HS := Lib.hid hs
        clear hg hs
        by_cases hlt : i < k
        · have HLT := Lib.hid hlt
          have F := f
          go_wp2_with (fail)
          go_roundg (k - (i + 1) + 1)
          case measure => have := HG.out; have := HLT.out; omega
          case rel =>
            have hlt := HLT.out
            refine ⟨i + 1, _, by go_num, rfl, rfl, by omega, by omega, ?_, F⟩
            rw [HS.out]
            rw [show (⟨#[97, 123]⟩ : ByteArray) = ⟨([97, 123] : List UInt8).toArray⟩ from rfl, show (⟨#[125]⟩ : ByteArray) = ⟨([125] : List UInt8).toArray⟩ from rfl, ba_app, ba_app]
            rfl
        · have F := f
          have hge : k ≤ i := by omega
          have HI := Lib.hid (show i = k from by omega)
          go_wp2_with (fail)
          go_meet
          refine ⟨rfl, ?_, rfl, rfl, F⟩
          rw [HS.out, HI.out]
          rw [show (⟨#[123]⟩ : ByteArray) = ⟨([123] : List UInt8).toArray⟩ from rfl, show (⟨#[125]⟩ : ByteArray) = ⟨([125] : List UInt8).toArray⟩ from rfl, ba_app, ba_app]
          rfl
    · go_wp2_with (fail)
      go_loopg [6, 10] (k - 1 + 1) (fun g sv iv wr => ∃ (i : Nat) (s : ByteArray), iv = .int .i64 i ∧ sv = .string s ∧ g = k - i + 1 ∧ 1 ≤ i ∧ i ≤ max k 1 ∧ s = ⟨(g1 (i - 1)).toArray⟩ ∧ Frm No w wr)
      case atStart => exact ⟨1, _, rfl, rfl, by omega, Nat.le_refl _, Nat.le_max_right _ _, rfl, f0⟩
      case round =>
        obtain ⟨i, s, rfl, rfl, hg, hi0, hi, hs, f⟩ := hrel
        have hsz : s.size ≤ 10000 := by
          rw [hs, sz_list]
          have := g1_len (i - 1) (by omega)
          omega
        have HG := Lib.hid hg
        have HS := Lib.hid hs
        clear hg hs
        by_cases hlt : i < k
        · have HLT := Lib.hid hlt
          have HDL := dig_len (n := i) (by omega)
          have HDC := refDecimal_ok i (by omega) wr
          obtain ⟨t, hT⟩ : ∃ t : ByteArray, t = ⟨(Lib.decDigits i).toArray⟩ := ⟨_, rfl⟩
          have htz : t.size ≤ 21 := by rw [hT, sz_list]; exact HDL
          rw [← hT] at HDC
          have HT := Lib.hid hT
          clear HDL hT
          go_wp2_with (fail)
          refine HDC.mono ?_
          rintro e w1 ⟨rfl, f1⟩
          have F := f.trans f1
          clear HDC f1 f
          go_wp2_with (fail)
          go_roundg (k - (i + 1) + 1)
          case measure => have := HG.out; have := HLT.out; omega
          case rel =>
            have hlt := HLT.out
            refine ⟨i + 1, _, by go_num, rfl, rfl, by omega, by omega, ?_, F⟩
            rw [show i + 1 - 1 = (i - 1) + 1 from by omega]
            have e : Lib.decDigits (i - 1 + 1) = Lib.decDigits i := by rw [show i - 1 + 1 = i from by omega]
            rw [HS.out, HT.out]
            rw [show (⟨#[32, 36, 97]⟩ : ByteArray) = ⟨([32, 36, 97] : List UInt8).toArray⟩ from rfl, show (⟨#[58, 73, 110, 116]⟩ : ByteArray) = ⟨([58, 73, 110, 116] : List UInt8).toArray⟩ from rfl, ba_app, ba_app, ba_app]
            show _ = (⟨(g1 (i - 1) ++ _ ++ Lib.decDigits (i - 1 + 1) ++ _).toArray⟩ : ByteArray)
            rw [e]
        · have F := f
          have hge : k ≤ i := by omega
          have HI := Lib.hid (show i - 1 = k - 1 from by omega)
          go_wp2_with (fail)
          go_meet
          refine ⟨rfl, ?_, rfl, rfl, F⟩
          rw [HS.out, HI.out]
          rw [show (⟨#[41, 123, 97, 125]⟩ : ByteArray) = ⟨([41, 123, 97, 125] : List UInt8).toArray⟩ from rfl, ba_app]
          rfl
    · go_wp2_with (fail)
      go_loopg [6, 11] (k - 0 + 1) (fun g sv iv wr => ∃ (i : Nat) (s : ByteArray), iv = .int .i64 i ∧ sv = .string s ∧ g = k - i + 1 ∧ 0 ≤ i ∧ i ≤ max k 0 ∧ s = ⟨(g2 i).toArray⟩ ∧ Frm No w wr)
      case atStart => exact ⟨0, _, rfl, rfl, by omega, Nat.le_refl _, Nat.le_max_right _ _, rfl, f0⟩
      case round =>
        obtain ⟨i, s, rfl, rfl, hg, hi0, hi, hs, f⟩ := hrel
        have hsz : s.size ≤ 10000 := by
          rw [hs, sz_list]
          have := g2_len (i) (by omega)
          omega
        have HG := Lib.hid hg
        have HS := Lib.hid hs
        clear hg hs
        by_cases hlt : i < k
        · have HLT := Lib.hid hlt
          have HDL := dig_len (n := i) (by omega)
          have HDC := refDecimal_ok i (by omega) wr
          obtain ⟨t, hT⟩ : ∃ t : ByteArray, t = ⟨(Lib.decDigits i).toArray⟩ := ⟨_, rfl⟩
          have htz : t.size ≤ 21 := by rw [hT, sz_list]; exact HDL
          rw [← hT] at HDC
          have HT := Lib.hid hT
          clear HDL hT
          go_wp2_with (fail)
          refine HDC.mono ?_
          rintro e w1 ⟨rfl, f1⟩
          have F := f.trans f1
          clear HDC f1 f
          go_wp2_with (fail)
          go_roundg (k - (i + 1) + 1)
          case measure => have := HG.out; have := HLT.out; omega
          case rel =>
            have hlt := HLT.out
            refine ⟨i + 1, _, by go_num, rfl, rfl, by omega, by omega, ?_, F⟩
            rw [HS.out, HT.out]
            rw [show (⟨#[102, 114, 97, 103, 109, 101, 110, 116, 32, 70]⟩ : ByteArray) = ⟨([102, 114, 97, 103, 109, 101, 110, 116, 32, 70] : List UInt8).toArray⟩ from rfl, show (⟨#[32, 111, 110, 32, 84, 123, 97, 125]⟩ : ByteArray) = ⟨([32, 111, 110, 32, 84, 123, 97, 125] : List UInt8).toArray⟩ from rfl, ba_app, ba_app, ba_app]
            rfl
        · have F := f
          have hge : k ≤ i := by omega
          have HI := Lib.hid (show i = k from by omega)
          go_wp2_with (fail)
          go_meet
          refine ⟨rfl, ?_, rfl, rfl, F⟩
          rw [HS.out, HI.out]
          rfl
    · go_wp2_with (fail)
      go_loopg [6, 12] ((k + 58) - 0 + 1) (fun g sv iv wr => ∃ (i : Nat) (s : ByteArray), iv = .int .i64 i ∧ sv = .string s ∧ g = (k + 58) - i + 1 ∧ 0 ≤ i ∧ i ≤ max (k + 58) 0 ∧ s = ⟨(g3 i).toArray⟩ ∧ Frm No w wr)
      case atStart => exact ⟨0, _, rfl, rfl, by omega, Nat.le_refl _, Nat.le_max_right _ _, rfl, f0⟩
      case round =>
        obtain ⟨i, s, rfl, rfl, hg, hi0, hi, hs, f⟩ := hrel
        have hsz : s.size ≤ 10000 := by
          rw [hs, sz_list]
          have := g3_len (i) (by omega)
          omega
        have HG := Lib.hid hg
        have HS := Lib.hid hs
        clear hg hs
        by_cases hlt : i < (k + 58)
        · have HLT := Lib.hid hlt
          have F := f
          go_wp2_with (fail)
          go_roundg ((k + 58) - (i + 1) + 1)
          case measure => have := HG.out; have := HLT.out; omega
          case rel =>
            have hlt := HLT.out
            refine ⟨i + 1, _, by go_num, rfl, rfl, by omega, by omega, ?_, F⟩
            rw [HS.out]
            rw [show (⟨#[97, 32]⟩ : ByteArray) = ⟨([97, 32] : List UInt8).toArray⟩ from rfl, ba_app]
            rfl
        · have F := f
          have hge : (k + 58) ≤ i := by omega
          have HI := Lib.hid (show i = (k + 58) from by omega)
          go_wp2_with (fail)
          go_meet
          refine ⟨rfl, ?_, rfl, rfl, F⟩
          rw [HS.out, HI.out]
          rw [show (⟨#[125]⟩ : ByteArray) = ⟨([125] : List UInt8).toArray⟩ from rfl, ba_app]
          rfl
    · go_wp2_with (fail)
      go_loopg [6, 13] (k - 1 + 1) (fun g sv iv wr => ∃ (i : Nat) (s : ByteArray), iv = .int .i64 i ∧ sv = .string s ∧ g = k - i + 1 ∧ 1 ≤ i ∧ i ≤ max k 1 ∧ s = ⟨(g4 (i - 1)).toArray⟩ ∧ Frm No w wr)
      case atStart => exact ⟨1, _, rfl, rfl, by omega, Nat.le_refl _, Nat.le_max_right _ _, rfl, f0⟩
      case round =>
        obtain ⟨i, s, rfl, rfl, hg, hi0, hi, hs, f⟩ := hrel
        have hsz : s.size ≤ 10000 := by
          rw [hs, sz_list]
          have := g4_len (i - 1) (by omega)
          omega
        have HG := Lib.hid hg
        have HS := Lib.hid hs
        clear hg hs
        by_cases hlt : i < k
        · have HLT := Lib.hid hlt
          have F := f
          go_wp2_with (fail)
          go_roundg (k - (i + 1) + 1)
          case measure => have := HG.out; have := HLT.out; omega
          case rel =>
            have hlt := HLT.out
            refine ⟨i + 1, _, by go_num, rfl, rfl, by omega, by omega, ?_, F⟩
            rw [show i + 1 - 1 = (i - 1) + 1 from by omega]
            rw [HS.out]
            rw [show (⟨#[32, 98, 58, 49]⟩ : ByteArray) = ⟨([32, 98, 58, 49] : List UInt8).toArray⟩ from rfl, ba_app]
            rfl
        · have F := f
          have hge : k ≤ i := by omega
          have HI := Lib.hid (show i - 1 = k - 1 from by omega)
          go_wp2_with (fail)
          go_meet
          refine ⟨rfl, ?_, rfl, rfl, F⟩
          rw [HS.out, HI.out]
          rw [show (⟨#[41, 125]⟩ : ByteArray) = ⟨([41, 125] : List UInt8).toArray⟩ from rfl, ba_app]
          rfl
    · go_wp2_with (fail)
      go_loopg [6, 14] (k - 0 + 1) (fun g sv iv wr => ∃ (i : Nat) (s : ByteArray), iv = .int .i64 i ∧ sv = .string s ∧ g = k - i + 1 ∧ 0 ≤ i ∧ i ≤ max k 0 ∧ s = ⟨(g5 i).toArray⟩ ∧ Frm No w wr)
      case atStart => exact ⟨0, _, rfl, rfl, by omega, Nat.le_refl _, Nat.le_max_right _ _, rfl, f0⟩
      case round =>
        obtain ⟨i, s, rfl, rfl, hg, hi0, hi, hs, f⟩ := hrel
        have hsz : s.size ≤ 10000 := by
          rw [hs, sz_list]
          have := g5_len (i) (by omega)
          omega
        have HG := Lib.hid hg
        have HS := Lib.hid hs
        clear hg hs
        by_cases hlt : i < k
        · have HLT := Lib.hid hlt
          have F := f
          go_wp2_with (fail)
          go_roundg (k - (i + 1) + 1)
          case measure => have := HG.out; have := HLT.out; omega
          case rel =>
            have hlt := HLT.out
            refine ⟨i + 1, _, by go_num, rfl, rfl, by omega, by omega, ?_, F⟩
            rw [HS.out]
            rw [show (⟨#[32, 64, 115, 107, 105, 112, 40, 105, 102, 58, 116, 114, 117, 101, 41]⟩ : ByteArray) = ⟨([32, 64, 115, 107, 105, 112, 40, 105, 102, 58, 116, 114, 117, 101, 41] : List UInt8).toArray⟩ from rfl, ba_app]
            rfl
        · have F := f
          have hge : k ≤ i := by omega
          have HI := Lib.hid (show i = k from by omega)
          go_wp2_with (fail)
          go_meet
          refine ⟨rfl, ?_, rfl, rfl, F⟩
          rw [HS.out, HI.out]
          rw [show (⟨#[125]⟩ : ByteArray) = ⟨([125] : List UInt8).toArray⟩ from rfl, ba_app]
          rfl
  case rest =>
    obtain ⟨rfl, rfl, rfl, rfl, F0⟩ := hcut
    obtain ⟨hl, hm1, hm2⟩ := lim_at hj hk
    obtain ⟨s, hs⟩ : ∃ s : ByteArray, s = ⟨(famL j k).toArray⟩ := ⟨_, rfl⟩
    have hsl : s.data.toList = famL j k := by rw [hs]
    have H1 := parse_c s wc (by rw [hs, sz_list]; omega)
    have hbad := parse_bad s.data.toList
    rw [hsl] at H1 hbad
    rw [← hs]
    obtain ⟨Z, hZ⟩ : ∃ Z, Z = parseL (famL j k) := ⟨_, rfl⟩
    rw [← hZ] at H1 hm1 hm2 hbad
    clear hZ hsl hs hl
    obtain ⟨K, hK⟩ : ∃ K, K = limK j k := ⟨_, rfl⟩
    obtain ⟨M, hM⟩ : ∃ M, M = limM j := ⟨_, rfl⟩
    obtain ⟨W, hW⟩ : ∃ W, W = limW j := ⟨_, rfl⟩
    have hW0 : W ≠ 0 := by rw [hW]; unfold limW; split <;> decide
    rw [← hK, ← hM] at hm1 hm2
    rw [← hW] at hm1
    rw [← hK, ← hM, ← hW]
    clear hK hM hW hj hk
    obtain ⟨d, er⟩ := Z
    simp only at H1 hm1 hm2 hbad
    go_wp2_with (fail)
    refine H1.mono ?_
    rintro e w1 ⟨v1, rfl, O1, f1⟩
    have D1 := O1.rd
    obtain ⟨W1, hW1⟩ : ∃ W, W = w1.alloc (docB v1) := ⟨_, rfl⟩
    have X1 : W1.heap[w1.heap.size]? = some (docB v1) := by rw [hW1]; exact heap_alloc_new w1 _
    have F1 : Frm No w1 W1 := by rw [hW1]; exact (Frm.refl No w1).al _
    have D2 := D1.frm F1 fun _ _ _ h => h
    have G1 := (F0.trans f1).trans F1
    have p0 := obj_cell X1 0
    have p1 := obj_cell X1 1
    have p2 := obj_cell X1 2
    have p3 := obj_cell X1 3
    simp only [List.getElem?_toArray, List.getElem?_cons_succ, List.getElem?_cons_zero] at p0 p1 p2 p3
    have l1 := lt_of_block X1
    unfold docB at hW1
    unfold dval
    clear X1 D1 f1 F1 H1 O1
    go_upto_region 56 with fail
    rw [← hW1]
    clear hW1
    by_cases hg : M < K
    · have he := hm1 hg
      subst he
      have hd := hbad hW0
      subst hd
      have HSM := sameDoc_ok D2 (rd_em W1)
      unfold dval nsh at HSM
      clear hm1 hm2 hbad D2
      go_wp2_with (go_at_call 15; refine (num_ok _ _).mono ?_; rintro e w' ⟨rfl, rfl⟩)
      refine HSM.mono ?_
      rintro e w2 ⟨rfl, f2⟩
      go_wp2_with (go_at_call 15; refine (num_ok _ _).mono ?_; rintro e w' ⟨rfl, rfl⟩)
      rw [HQ.out]
      exact ⟨rfl, G1.trans f2⟩
    · obtain ⟨he, hlen⟩ := hm2 hg
      subst he
      obtain ⟨rs, hS, hA⟩ := D2.2.2.1
      have hn : v1.s.n = d.sels.length := hS.1.facts.1.trans hA.len
      have hn0 : 0 < v1.s.n := by omega
      clear hm1 hm2 hbad D2 hS hA
      go_wp2_with (go_at_call 15; refine (num_ok _ _).mono ?_; rintro e w' ⟨rfl, rfl⟩)
      rw [HQ.out]
      exact ⟨rfl, G1⟩
end Go.Proofs.YthaegncocdddfaaGreatDoor

/- The walk of DocLimits, as its row wants it. -/
namespace Go.Proofs.YthaegncocdddfaaGreatDoor
set_option linter.unusedVariables false
set_option linter.unusedSimpArgs false
open Go.RowKit Go.Lib Go.Tt
theorem limits_row (W : World) (ht : Tab W) (n : Int) (_ : (Lit.int .i64 n).wf = true) (x : Int) (_ : (Lit.int .i64 x).wf = true) : Calls Tryz.prog 6 #[.int .i64 n, .int .i64 x] W fun e W' => e = .returned (.bool true) ∧ Below W.heap.size W W' :=
  (limits_law n x W ht).mono fun _ _ h => ⟨h.1, h.2.below (fun _ _ h => h) (Nat.le_refl _)⟩
end Go.Proofs.YthaegncocdddfaaGreatDoor

/- The card of tattlelaw15.DocLimits. -/
namespace Go.Proofs.YthaegncocdddfaaGreatDoor.docLimits
set_option linter.unusedVariables false
set_option linter.unusedSimpArgs false
open Go.ChangeShapes Go.WideShapes Go.ChangeAt Go.RowKit Go.Tt
open Go.ChangeMaps (open_string shut_string)
set_option linter.unusedVariables false
set_option maxRecDepth 100000 in
theorem contract (H : Type) (enc : TypeId × Value → H) (W : World) (base : Nat) (args : Array Value) (ds gs : List (DataW H)) (before : List MemPlace)
    (hval0 : ∀ (j : Nat) t v, Tryz.f6.params[j]? = some t → args[j]? = some v → Value.okWide Tryz.prog W .any base t v)
    (hW : DataW.Whole enc Tryz.prog Tryz.f6.params.toList Rows.docLimitsSpec.vars false W args.toList ds gs before)
    (hsz0 : (DataW.weightsEach Tryz.prog (Tryz.f6.params.toList ++ Rows.docLimitsSpec.plain.varTypes Tryz.prog) (ds ++ gs)).all (· ≤ reachBytes) = true)
    (hL : laidMetH Tryz.prog tabs W) :
    Calls Tryz.prog 6 args W fun e W' => ∃ v, e = .returned v ∧ Rows.docLimitsSpec.post enc Tryz.prog Tryz.f6 false true false false W args v W' := by
  have hval : ∀ (j : Nat) t v, Tryz.f6.params[j]? = some t → args[j]? = some v → Value.okWide Tryz.prog W .any base t v := hval0
  have hW' := hW
  obtain ⟨p, q, hA0, hV, rfl, hfz, hnd⟩ := hW
  have hA : DataW.TrodAll enc Tryz.prog W 0 (fun _ => true) true Tryz.f6.params.toList args.toList ds p := hA0
  rw [Tryz.params6] at hA hval
  have hB := hA
  obtain ⟨v0, vs0, d0, ds0, p0, q0, hargs, rfl, rfl, h0, r0⟩ := trodAll_cons hA
  obtain ⟨v1, vs1, d1, ds1, p1, q1, rfl, rfl, rfl, h1, r1⟩ := trodAll_cons r0
  obtain ⟨rfl, rfl, rfl⟩ := trodAll_nil r1
  obtain rfl : args = #[v0, v1] := by cases args; simp_all
  obtain ⟨rfl, rfl⟩ := trodVars_none hV
  obtain ⟨a0, rfl, e0, _, w0⟩ := open_int Tryz.underlying3 (hval 0 3 v0 rfl rfl) h0
  obtain ⟨a1, rfl, e1, _, w1⟩ := open_int Tryz.underlying3 (hval 1 3 v1 rfl rfl) h1
  refine (limits_row W (table hL) a0 w0 a1 w1).mono fun e W' ⟨he, bel⟩ => ?_
  subst he
  exact ⟨_, rfl, _, _, _, [], _, [], hW', trodAll_mk1 (shut_bool Tryz.underlying4 _), below_trodAll laidOut bel (by kernel_rfl) hB (trodAll_lt hB), rfl, bel.frame _, fun h => by cases h⟩
theorem laid_met (os : Os) : laidMet Tryz.prog Rows.docLimitsRow.laid ((laidWorld os).forCall (fun _ _ => 0) ⟨#[], #[.int .i64 0, .int .i64 0], []⟩).memory :=
  laidMet_of_run' 8 (by kernel_rfl) (by kernel_rfl)
noncomputable def rdW (os : Os) {H : Type} (enc : TypeId × Value → H) : Option (List (DataW H) × List (DataW H) × List MemPlace) := DataW.whole enc Tryz.prog ((laidWorld os).forCall (fun _ _ => 0) ⟨#[], #[.int .i64 0, .int .i64 0], []⟩).memory Tryz.f6.params.toList Rows.docLimitsSpec.vars false (#[.int .i64 0, .int .i64 0] : Array Value).toList 8
theorem rdW_some (os : Os) {H : Type} (enc : TypeId × Value → H) : (rdW os enc).isSome = true := by kernel_rfl
theorem reads (os : Os) {H : Type} (enc : TypeId × Value → H) : rdW os enc = some (((rdW os enc).get (rdW_some os enc)).1, ((rdW os enc).get (rdW_some os enc)).2.1, ((rdW os enc).get (rdW_some os enc)).2.2) := get_parts (rdW os enc) (rdW_some os enc)
set_option maxRecDepth 100000 in
theorem lifted (os : Os) (started : os.Started) (H : Type) (enc : TypeId × Value → H) (G : Stop.Interp) :
    ReturnsInHanded {} Tryz.checked os 6 .any ((OpenSpec.ofChange Rows.docLimitsSpec).preRow enc Tryz.prog Tryz.f6 Rows.docLimitsRow.domain false Rows.docLimitsRow.laid) (((OpenSpec.ofChange Rows.docLimitsSpec).at G).post enc Tryz.prog Tryz.f6 false true false false) := by
  have hx := reads os enc
  refine returnsInHanded_of_row (C := Tryz.checked) (s := OpenSpec.ofChange Rows.docLimitsSpec) own started (by kernel_rfl) Tryz.func6
    (witness_row_at (enc := enc) (C := Tryz.checked) false (laidWorld os) #[.int .i64 0, .int .i64 0] rfl (by kernel_rfl) (by kernel_rfl) (by kernel_rfl) (OpenSpec.preRow_of_cond 8 hx (by kernel_rfl) (fun k hk => by cases hk) (by kernel_rfl) (laid_met os))) ?_
  intro W base args ds gs before hval hW _ hcond hsz hL _ _
  exact contract H enc W base args ds gs before hval hW hsz hL
theorem said : Rows.DocLimitsSaid :=
  OpenClaim.holds_of_cond 6 Tryz.f6 rfl rfl rfl rfl rfl rfl rfl ⟨rfl, rfl, rfl, rfl, rfl⟩ rfl rfl rfl rfl rfl (by kernel_rfl) Tryz.func6 (by kernel_rfl)
    (of_decide_eq_true (by kernel_rfl)) (by unfold Func.isWrapper; first | (rw [if_pos (by decide +kernel)]; kernel_rfl) | (rw [if_neg (by decide +kernel)]; exact ⟨rfl, rfl⟩))
    (fun os started H enc _ G => by rw [OpenClaim.pre_eq_preRow]; exact lifted os started H enc G)
theorem plain (f : FuncId) (fn : Func) (hf : Tryz.pinned.checked.prog.funcNamed "tattle/tattlelaw15.DocLimits" = some f) (hfn : Tryz.pinned.checked.prog.funcs[f]? = some fn) :
    true = Tryz.pinned.checked.prog.looks [] ∧ ∀ (j : Nat) t, fn.params[j]? = some t → Tryz.pinned.checked.prog.wantsStandIn t = false := by
  obtain rfl : f = 6 := Option.some.inj ((show Tryz.prog.funcNamed "tattle/tattlelaw15.DocLimits" = some 6 by kernel_rfl).symm.trans hf) |>.symm
  obtain rfl : fn = Tryz.f6 := (Option.some.inj (Tryz.func6.symm.trans hfn)).symm
  refine ⟨by kernel_rfl, fun j t ht => ?_⟩
  rw [Tryz.params6] at ht
  have ht := Array.mem_of_getElem? ht
  simp only [List.mem_toArray, List.mem_cons, List.not_mem_nil, or_false] at ht
  rcases ht with rfl | rfl
  · exact (show Tryz.prog.wantsStandIn 3 = false by kernel_rfl)
  · exact (show Tryz.prog.wantsStandIn 3 = false by kernel_rfl)
theorem card : Rows.DocLimitsCardSaid :=
  Claim7.holds_tied_plain_at .later [] _ _ _ _ said (fun _ h => by cases h) (by kernel_rfl) (fun _ h => by cases h) docLimits_row_tie rfl ⟨rfl, rfl⟩ (by kernel_rfl) rfl plain (by kernel_rfl)
end Go.Proofs.YthaegncocdddfaaGreatDoor.docLimits
namespace Go.Proofs.YthaegncocdddfaaGreatDoor
set_option linter.unusedVariables false
set_option linter.unusedSimpArgs false
/-- The card, under a short name, for the claim. -/
theorem docLimits_holds : Rows.DocLimitsCardSaid := docLimits.card
#print axioms docLimits_holds
end Go.Proofs.YthaegncocdddfaaGreatDoor

/- The sets' laws' values. -/
import Derived.Test.YtheejjifcpjdbaaLaw9b
namespace Go.Proofs.Ytheejjifcpjdbaa
set_option linter.unusedVariables false
set_option linter.unusedSimpArgs false
open Go.RowKit Go.Lib Go.Tt
def eU8 : Enc UInt8 := ⟨1, fun b => [.int .u8 b.toNat], fun _ => rfl, fun x u hu => by simp at hu; subst hu; rfl, by decide⟩
theorem flat_u8 (l : List UInt8) : eU8.flat l = bcs l := by
  induction l with
  | nil => rfl
  | cons x l ih => rw [eU8.flat_cons, ih]; rfl
/-- A digit. -/
def digB (a : Nat) : ByteArray := ⟨#[UInt8.ofNat (48 + a)]⟩
/-- One of eight values. -/
def vB (a : Nat) : ByteArray := ⟨#[118]⟩ ++ digB a
set_option maxRecDepth 100000 in
theorem decimal_ok (a : Nat) (ha : a ≤ 7) (w : World) : Calls Try.prog 80 #[.int .i64 a] w fun e w' => e = .returned (.string (digB a)) ∧ Frm No w w' := by
  have h1 : ¬ ((a : Int) < 0) := by omega
  have h2 : IntKind.u64.wrap (a : Int) = a := by rw [IntKind.wrap_u64]; omega
  have h3 : (a : Int) % 10 = a := by omega
  have h4 : (a : Int) / 10 = 0 := by omega
  have h5 : IntKind.u64.wrap (48 + (a : Int)) = 48 + a := by rw [IntKind.wrap_u64]; omega
  have h6 : IntKind.u8.wrap (48 + (a : Int)) = 48 + a := by simp [IntKind.wrap, IntKind.bits, IntKind.signed]; omega
  have h7 : Int.tmod (a : Int) 10 = a := by rw [Int.tmod_eq_emod_of_nonneg (by omega)]; exact h3
  have h8 : Int.tdiv (a : Int) 10 = 0 := by rw [Int.tdiv_eq_ediv_of_nonneg (by omega)]; exact h4
  have hu : ((UInt8.ofNat (48 + a)).toNat : Int) = 48 + a := by simp [UInt8.toNat_ofNat']; omega
  have HU := Lib.hid hu
  clear hu
  go_enter Try.func80, Try.ntmps80
  go_wp2
  go_loopg [3, 4] 2 (fun g xv ov wr => (g = 2 ∧ xv = .int .u64 a ∧ ov = .slice none 0 0 ∧ wr = w) ∨ (g = 1 ∧ xv = .int .u64 0 ∧ ∃ (o : Option Addr) (c : Nat), ov = .slice o 1 c ∧ Ow wr (fun k => w.heap.size ≤ k) 5 eU8 (.slice o 1 c) [UInt8.ofNat (48 + a)] ∧ Frm No w wr))
  case atStart => exact .inl ⟨rfl, rfl, rfl, rfl⟩
  case round =>
    rcases hrel with ⟨hg, rfl, rfl, rfl⟩ | ⟨hg, rfl, o, c, rfl, O, F⟩
    · have hG := Lib.hid hg
      clear hg
      have hl : ((wr.alloc (.cells #[.int .u8 (48 + (a : Int))] 5 (0, 0))).heap[wr.heap.size]? = some (.cells #[.int .u8 (48 + (a : Int))] 5 (0, 0))) := heap_alloc_new wr _
      have o0 : Ow (wr.alloc (.cells #[.int .u8 (48 + (a : Int))] 5 (0, 0))) (fun k => wr.heap.size ≤ k) 5 eU8 (.slice (some ⟨wr.heap.size, 0, none⟩) 1 1) [UInt8.ofNat (48 + a)] :=
        Ow.row (l := [UInt8.ofNat (48 + a)]) hl (Nat.le_refl _) (Nat.le_refl _) (by decide) rfl (by show [Value.int .u8 (48 + (a : Int))] = eU8.flat [UInt8.ofNat (48 + a)]; rw [← HU.out]; rfl)
      clear hl
      have hc1 : (0 : Int) = ((0 : Nat) : Int) := rfl
      rcases (show a = 0 ∨ a = 1 ∨ a = 2 ∨ a = 3 ∨ a = 4 ∨ a = 5 ∨ a = 6 ∨ a = 7 by omega) with h0 | h0 | h0 | h0 | h0 | h0 | h0 | h0
      all_goals subst h0
      all_goals clear h3 h4 h7 h8 h2 h1 hc1
      all_goals go_wp2_with (at_builtin; refine wpList_ap _ rfl (.tmp 25) (.tmp 26) 47 47 rfl 5 _ 1 Try.underlying47 i_u8 rfl o0 ((RdS.nil _ eU8).src Try.underlying47) rfl rfl rfl (by show 1 ≤ maxLen; decide) (by show (1 + 0) * 1 ≤ 140737488355328; omega) ?_)
      all_goals intro a1 c1 w1 o1 f1
      all_goals have F1 : Frm No wr w1 := ((Frm.refl No wr).al _).then f1 fun k hk hh => by omega
      all_goals go_wp2
      all_goals go_roundg 1
      all_goals first
        | (have := hG.out; omega)
        | exact .inr ⟨rfl, rfl, a1, c1, rfl, o1.mono fun k _ hh => by rcases hh with hh | hh; exact hh; have := hh.1; simp at this; omega, F1⟩
    · have hown : wr.ownsRow 0 5 1 (.slice o [UInt8.ofNat (48 + a)].length c) [UInt8.ofNat (48 + a)].length (bcs [UInt8.ofNat (48 + a)]) := by
        rcases O with ⟨o', e, -⟩ | ⟨h, -⟩
        · simp only [Value.slice.injEq] at e; omega
        · rw [← flat_u8]; exact h
      have hcv := conv_own hown
      have hcv' : (convert 47 9 (.slice o 1 c)).run Try.prog wr = .ok (.string (digB a)) wr := hcv
      clear hcv hown
      go_wp2
      go_ret
      exact ⟨rfl, F⟩
theorem value_ok (x : Int) (w : World) : ∃ a : Nat, a ≤ 7 ∧ x % 8 = a ∧ Calls Try.prog 57 #[.int .i64 x] w fun e w' => e = .returned (.string (vB a)) ∧ Frm No w w' := by
  obtain ⟨a, ha, a1⟩ := mask_nat 7 x _ (and_7 x)
  refine ⟨a, a1, by rw [← ha, and_7], ?_⟩
  have hs : ¬ ((9223372036854775807 : Int) < ((⟨#[118]⟩ : ByteArray).size + (digB a).size : Nat)) := by show ¬ ((9223372036854775807 : Int) < ((1 + 1 : Nat) : Int)); omega
  go_enter Try.func57, Try.ntmps57
  go_wp2_with (fail)
  refine (decimal_ok a a1 _).mono ?_
  rintro e w1 ⟨rfl, fr⟩
  go_wp2
  go_ret
  exact ⟨rfl, fr⟩
end Go.Proofs.Ytheejjifcpjdbaa

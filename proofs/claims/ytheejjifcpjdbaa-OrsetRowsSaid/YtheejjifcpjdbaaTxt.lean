/- Texts made of bytes. -/
import Derived.Test.YtheejjifcpjdbaaProg
import Derived.Test.YtheejjifcpjdbaaBase
namespace Go.Proofs.Ytheejjifcpjdbaa
set_option linter.unusedVariables false
set_option linter.unusedSimpArgs false
open Go.RowKit Go.Lib Go.Tt
theorem i_u8 : (Try.prog.info? 5).map (fun i => (i.zero, i.size, i.bytes)) = some (some (.int .u8 0), 1, 1) := by kernel_rfl
/-- Bytes as cells. -/
def bcs (l : List UInt8) : List Value := l.map fun b => .int .u8 b.toNat
theorem bcs_length (l : List UInt8) : (bcs l).length = l.length := by simp [bcs]
theorem bcs_app (a b : List UInt8) : bcs (a ++ b) = bcs a ++ bcs b := by simp [bcs]
theorem bcs_str (s : ByteArray) : bcs s.data.toList = byteCells s := rfl
theorem bcs_one (l : List UInt8) : ∀ u ∈ bcs l, u.oneCell' = true := by intro u hu; obtain ⟨b, _, rfl⟩ := List.mem_map.1 hu; rfl

set_option maxRecDepth 100000 in
/-- Bytes that are owned, turned into a text. -/
theorem conv_own {w : World} {B : Nat} {a : Option Addr} {c : Nat} {l : List UInt8} (h : w.ownsRow B 5 1 (.slice a l.length c) l.length (bcs l)) :
    (convert 47 9 (.slice a l.length c)).run Try.prog w = .ok (.string ⟨l.toArray⟩) w := by
  rcases own_cases h with ⟨rfl, h0, h1, h2⟩ | ⟨g, rfl, _, _⟩
  · have hl : l = [] := List.eq_nil_of_length_eq_zero h0
    subst hl
    exact run_convert_bytes_nil (P := Try.prog) w 47 5 Try.underlying47 Try.underlying5 0 c 9 Try.underlying9
  · have hc : ∀ i, i < l.length → w.cell? ⟨g, 0 + i, none⟩ = some (.int .u8 ((l.map fun b => (b.toNat : Int)).getD i 0)) := fun i hi => by
      rw [Nat.zero_add, h.cellAt i (by omega)]
      simp [bcs, List.getD, hi]
    have := run_convert_bytes_arg (P := Try.prog) w 47 5 Try.underlying47 Try.underlying5 g 0 l.length c (l.map fun b => (b.toNat : Int)) (by simp) hc 9 Try.underlying9
    rw [this]
    have e : (l.map ((fun n => UInt8.ofNat n.toNat) ∘ fun b => (b.toNat : Int))) = l := by
      conv => rhs; rw [← List.map_id l]
      exact List.map_congr_left fun b _ => by simp
    simp [strOfNums, e]
theorem bcs_zeros (n : Nat) : bcs (List.replicate n 0) = List.replicate n (.int .u8 0) := by simp [bcs]
theorem conv_zeros {w : World} {a : Option Addr} {n c : Nat} (h : w.ownsRow 0 5 1 (.slice a n c) n (List.replicate n (.int .u8 0))) :
    (convert 47 9 (.slice a n c)).run Try.prog w = .ok (.string ⟨(List.replicate n 0).toArray⟩) w := by
  have h' : w.ownsRow 0 5 1 (.slice a (List.replicate n (0 : UInt8)).length c) (List.replicate n (0 : UInt8)).length (bcs (List.replicate n 0)) := by
    rw [bcs_zeros, List.length_replicate]; exact h
  have := conv_own h'
  rw [List.length_replicate] at this
  exact this
theorem grown_no {w w' : World} (h : w.grownBy w' none) : Frm No w w' := (Frm.of_grown h).mono fun k _ hk => by cases hk
end Go.Proofs.Ytheejjifcpjdbaa

/- The document's disk, call by call, told by the same plain functions. -/
import Derived.Test.YtheejjifcpjdbaaDisk6
namespace Go.Proofs.Ytheejjifcpjdbaa
open Go.RowKit Go.Lib Go.Tt
/-- The bounds of a disk. -/
structure DiskD.Ok (d : DiskD) : Prop where
  s0 : 64 ≤ d.size
  s1 : d.size ≤ 65536
  room : (d.kept.length : Int) + d.waits.length ≤ d.size
section
variable {w : World} {b : Nat} {d : DiskD}
theorem rappend_g (h : RefIs w b d) (o : d.Ok) (s : ByteArray) :
    Calls Try.prog 26 #[.pointer (some ⟨b, 0, none⟩), .string s] w fun e w' => e = .returned (.int .i64 (d.apE s)) ∧ RefIs w' b (d.apD s) ∧ Frm (fun k => k = b) w w' := by
  unfold DiskD.apE DiskD.apD
  have o0 : 0 ≤ d.size := by have := o.s0; omega
  cases hd : d.down with
  | true => simp only [if_true]; exact (rappend_down h hd s).mono (by rintro e w' ⟨rfl, rfl⟩; exact ⟨rfl, h, Frm.refl _ _⟩)
  | false =>
    by_cases hf : d.size - d.kept.length - d.waits.length < (s.size : Int)
    · simp only [Bool.false_eq_true, if_false, if_pos hf]
      exact (rappend_full h hd o.s1 o0 o.room s hf).mono (by rintro e w' ⟨rfl, n, rfl⟩; exact ⟨rfl, h.drewN n, Frm.drewN _ _ _⟩)
    · simp only [Bool.false_eq_true, if_false, if_neg hf]
      exact (rappend_ok h hd o.s1 o0 o.room s (by omega)).mono (by rintro e w' ⟨rfl, k, f⟩; exact ⟨rfl, hd ▸ k, f⟩)
theorem rsync_g (h : RefIs w b d) (o : d.Ok) :
    Calls Try.prog 28 #[.pointer (some ⟨b, 0, none⟩)] w fun e w' => e = .returned (.int .i64 d.syE) ∧ RefIs w' b d.syD ∧ Frm (fun k => k = b) w w' := by
  unfold DiskD.syE DiskD.syD
  cases hd : d.down with
  | true => simp only [if_true]; exact (rsync_down h hd).mono (by rintro e w' ⟨rfl, rfl⟩; exact ⟨rfl, h, Frm.refl _ _⟩)
  | false =>
    simp only [Bool.false_eq_true, if_false]
    exact (rsync_ok h hd o.s1 o.room).mono (by rintro e w' ⟨rfl, k, f⟩; exact ⟨rfl, hd ▸ k, f⟩)
theorem rcrash_g (h : RefIs w b d) (o : d.Ok) (k : Int) :
    Calls Try.prog 30 #[.pointer (some ⟨b, 0, none⟩), .int .i64 k] w fun e w' => e = .returned (.int .i64 (d.crE k)) ∧ RefIs w' b (d.crD k) ∧ Frm (fun k => k = b) w w' := by
  unfold DiskD.crE DiskD.crD
  cases hd : d.down with
  | true => simp only [if_true]; exact (rcrash_down h hd k).mono (by rintro e w' ⟨rfl, rfl⟩; exact ⟨rfl, h, Frm.refl _ _⟩)
  | false =>
    by_cases hf : k < 0
    · simp only [Bool.false_eq_true, if_false, if_pos hf]
      exact (rcrash_neg h hd k hf).mono (by rintro e w' ⟨rfl, rfl⟩; exact ⟨rfl, h, Frm.refl _ _⟩)
    · simp only [Bool.false_eq_true, if_false, if_neg hf]
      exact (rcrash_ok h hd o.s1 o.room k (by omega)).mono (by rintro e w' ⟨rfl, k, f⟩; exact ⟨rfl, k, f⟩)
theorem rrestart_g (h : RefIs w b d) :
    Calls Try.prog 32 #[.pointer (some ⟨b, 0, none⟩)] w fun e w' => e = .returned (.int .i64 d.reE) ∧ RefIs w' b d.reD ∧ Frm (fun k => k = b) w w' := by
  unfold DiskD.reE DiskD.reD
  cases hd : d.down with
  | false =>
    simp only [Bool.false_eq_true, if_false]
    exact (rrestart_up h hd).mono (by rintro e w' ⟨rfl, rfl⟩; exact ⟨rfl, by rw [← hd]; exact h, Frm.refl _ _⟩)
  | true =>
    simp only [if_true]
    exact (rrestart_down h hd).mono (by rintro e w' ⟨rfl, k, f⟩; exact ⟨rfl, k, f⟩)
theorem rbytes_g (h : RefIs w b d) :
    Calls Try.prog 36 #[.pointer (some ⟨b, 0, none⟩)] w fun e w' => e = .returned (.tuple #[.string d.byS, .int .i64 d.byE]) ∧ w = w' := by
  unfold DiskD.byE DiskD.byS
  cases hd : d.down with
  | true => simp only [if_true]; exact rbytes_down h hd
  | false => simp only [Bool.false_eq_true, if_false]; exact rbytes_up h hd
theorem rcut_g (h : RefIs w b d) (o : d.Ok) (k : Int) :
    Calls Try.prog 34 #[.pointer (some ⟨b, 0, none⟩), .int .i64 k] w fun e w' => e = .returned (.int .i64 (d.cuE k)) ∧ RefIs w' b (d.cuD k) ∧ Frm (fun k => k = b) w w' := by
  have hl : d.kept.length ≤ 65536 := by have := o.s1; have := o.room; omega
  unfold DiskD.cuE DiskD.cuD
  cases hd : d.down with
  | true => simp only [if_true]; exact (rcut_down h hd k).mono (by rintro e w' ⟨rfl, rfl⟩; exact ⟨rfl, h, Frm.refl _ _⟩)
  | false =>
    by_cases hf : k < 0 ∨ (d.kept.length : Int) < k ∨ 0 < d.waits.length
    · simp only [Bool.false_eq_true, if_false, if_pos hf]
      exact (rcut_bad h hd k hf).mono (by rintro e w' ⟨rfl, rfl⟩; exact ⟨rfl, h, Frm.refl _ _⟩)
    · simp only [Bool.false_eq_true, if_false, if_neg hf]
      have hk : (k.toNat : Int) = k := by omega
      have hw : d.waits = [] := List.eq_nil_of_length_eq_zero (by omega)
      have := rcut_ok h hd k.toNat (by omega) hw hl
      rw [hk] at this
      exact this.mono (by rintro e w' ⟨rfl, k, f⟩; exact ⟨rfl, hd ▸ k, f⟩)
theorem rroom_g (h : RefIs w b d) (o : d.Ok) :
    Calls Try.prog 38 #[.pointer (some ⟨b, 0, none⟩)] w fun e w' => e = .returned (.int .i64 d.room) ∧ ∃ n, w' = w.drewN n := by
  unfold DiskD.room
  cases hd : d.down with
  | true => exact (rroom_down h hd).mono fun e w' h => ⟨h.1, 0, h.2.symm⟩
  | false => exact rroom_up h hd o.s1 (by have := o.s0; omega) o.room
end
theorem DiskIs.ok {w : World} {F : Nat → Prop} {b : Nat} {d : DiskD} (h : DiskIs w F b d) : d.Ok := ⟨h.bounds.1, h.bounds.2.1, h.bounds.2.2⟩
end Go.Proofs.Ytheejjifcpjdbaa

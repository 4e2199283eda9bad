/- The disk and the document's disk, call by call, told by the same plain functions. -/
import Derived.Test.YtheejjifcpjdbaaDiskRef
namespace Go.Proofs.Ytheejjifcpjdbaa
set_option linter.unusedVariables false
set_option linter.unusedSimpArgs false
open Go.RowKit Go.Lib Go.Tt

/-- What each call tells of a disk. -/
def DiskD.room (d : DiskD) : Int := if d.down then 0 else d.size - d.kept.length - d.waits.length
def DiskD.apE (d : DiskD) (s : ByteArray) : Int := if d.down then 2002 else if d.size - d.kept.length - d.waits.length < (s.size : Int) then 2001 else 0
def DiskD.apD (d : DiskD) (s : ByteArray) : DiskD := if d.down then d else if d.size - d.kept.length - d.waits.length < (s.size : Int) then d else { d with waits := d.waits ++ s.data.toList }
def DiskD.syE (d : DiskD) : Int := if d.down then 2002 else 0
def DiskD.syD (d : DiskD) : DiskD := if d.down then d else { d with kept := d.kept ++ d.waits, waits := [] }
def DiskD.crE (d : DiskD) (k : Int) : Int := if d.down then 2002 else if k < 0 then 2000 else 0
def DiskD.crD (d : DiskD) (k : Int) : DiskD := if d.down then d else if k < 0 then d else { d with kept := d.kept ++ d.waits.take k.toNat, waits := [], down := true }
def DiskD.reE (d : DiskD) : Int := if d.down then 0 else 2000
def DiskD.reD (d : DiskD) : DiskD := { d with down := false }
def DiskD.byS (d : DiskD) : ByteArray := if d.down then ByteArray.empty else txt d.kept
def DiskD.byE (d : DiskD) : Int := if d.down then 2002 else 0
def DiskD.cuE (d : DiskD) (k : Int) : Int := if d.down then 2002 else if k < 0 ∨ (d.kept.length : Int) < k ∨ 0 < d.waits.length then 2000 else 0
def DiskD.cuD (d : DiskD) (k : Int) : DiskD := if d.down then d else if k < 0 ∨ (d.kept.length : Int) < k ∨ 0 < d.waits.length then d else { d with kept := d.kept.take k.toNat }

theorem DiskIs.bounds {w : World} {F : Nat → Prop} {b : Nat} {d : DiskD} (h : DiskIs w F b d) : 64 ≤ d.size ∧ d.size ≤ 65536 ∧ (d.kept.length : Int) + d.waits.length ≤ d.size := by
  obtain ⟨kp, kc, dp, dc, h⟩ := h
  exact ⟨h.s0, h.s1, h.room⟩
theorem DiskIs.lt {w : World} {F : Nat → Prop} {b : Nat} {d : DiskD} (h : DiskIs w F b d) : b < w.heap.size := by
  obtain ⟨kp, kc, dp, dc, h⟩ := h
  exact h.lt
theorem DiskIs.foot {w : World} {F : Nat → Prop} {b : Nat} {d : DiskD} (h : DiskIs w F b d) : F b := by
  obtain ⟨kp, kc, dp, dc, h⟩ := h
  exact h.foot
/-- The footprint: whatever is new since B, but for one block. -/
def G (B : Nat) (r : Nat → Prop) (k : Nat) : Prop := B ≤ k ∧ ¬ r k
theorem G_new {B : Nat} {r : Nat → Prop} {w w' : World} {b : Nat} {d : DiskD} (h : DiskIs w' (Nw (G B r) w w') b d) (hB : B ≤ w.heap.size) (hr : ∀ x, r x → x < w.heap.size) : DiskIs w' (G B r) b d :=
  h.mono fun k hk hn => by
    rcases hn with hn | ⟨h1, h2⟩
    · exact hn
    · exact ⟨by omega, fun e => by have := hr k e; omega⟩

section
variable {w : World} {B b : Nat} {r : Nat → Prop} {d : DiskD}
theorem append_g (h : DiskIs w (G B r) b d) (hB : B ≤ w.heap.size) (hr : ∀ x, r x → x < w.heap.size) (s : ByteArray) {E : Int} {D : DiskD} (hE : d.apE s = E) (hD : d.apD s = D) :
    Calls Try.prog 25 #[.pointer (some ⟨b, 0, none⟩), .string s] w fun e w' => e = .returned (.int .i64 E) ∧ DiskIs w' (G B r) b D ∧ Frm (G B r) w w' := by
  subst hE hD
  unfold DiskD.apE DiskD.apD
  cases hd : d.down with
  | true => simp only [if_true]; exact (append_down h hd s).mono (by rintro e w' ⟨rfl, rfl⟩; exact ⟨rfl, h, Frm.refl _ _⟩)
  | false =>
    by_cases hf : d.size - d.kept.length - d.waits.length < (s.size : Int)
    · simp only [Bool.false_eq_true, if_false, if_pos hf]
      exact (append_full h hd s hf).mono (by rintro e w' ⟨rfl, n, rfl⟩; exact ⟨rfl, h.drewN n, Frm.drewN _ _ _⟩)
    · simp only [Bool.false_eq_true, if_false, if_neg hf]
      exact (append_ok h hd s (by omega)).mono (by rintro e w' ⟨rfl, k, f⟩; exact ⟨rfl, hd ▸ G_new k hB hr, f⟩)
theorem sync_g (h : DiskIs w (G B r) b d) (hB : B ≤ w.heap.size) (hr : ∀ x, r x → x < w.heap.size) {E : Int} {D : DiskD} (hE : d.syE = E) (hD : d.syD = D) :
    Calls Try.prog 27 #[.pointer (some ⟨b, 0, none⟩)] w fun e w' => e = .returned (.int .i64 E) ∧ DiskIs w' (G B r) b D ∧ Frm (G B r) w w' := by
  subst hE hD
  unfold DiskD.syE DiskD.syD
  cases hd : d.down with
  | true => simp only [if_true]; exact (sync_down h hd).mono (by rintro e w' ⟨rfl, rfl⟩; exact ⟨rfl, h, Frm.refl _ _⟩)
  | false =>
    simp only [Bool.false_eq_true, if_false]
    exact (sync_ok h hd).mono (by rintro e w' ⟨rfl, k, f⟩; exact ⟨rfl, hd ▸ G_new k hB hr, f⟩)
theorem crash_g (h : DiskIs w (G B r) b d) (hB : B ≤ w.heap.size) (hr : ∀ x, r x → x < w.heap.size) (k : Int) {E : Int} {D : DiskD} (hE : d.crE k = E) (hD : d.crD k = D) :
    Calls Try.prog 29 #[.pointer (some ⟨b, 0, none⟩), .int .i64 k] w fun e w' => e = .returned (.int .i64 E) ∧ DiskIs w' (G B r) b D ∧ Frm (G B r) w w' := by
  subst hE hD
  unfold DiskD.crE DiskD.crD
  cases hd : d.down with
  | true => simp only [if_true]; exact (crash_down h hd k).mono (by rintro e w' ⟨rfl, rfl⟩; exact ⟨rfl, h, Frm.refl _ _⟩)
  | false =>
    by_cases hf : k < 0
    · simp only [Bool.false_eq_true, if_false, if_pos hf]
      exact (crash_neg h hd k hf).mono (by rintro e w' ⟨rfl, rfl⟩; exact ⟨rfl, h, Frm.refl _ _⟩)
    · simp only [Bool.false_eq_true, if_false, if_neg hf]
      exact (crash_ok h hd k (by omega)).mono (by rintro e w' ⟨rfl, k, f⟩; exact ⟨rfl, G_new k hB hr, f⟩)
theorem restart_g (h : DiskIs w (G B r) b d) {E : Int} {D : DiskD} (hE : d.reE = E) (hD : d.reD = D) :
    Calls Try.prog 31 #[.pointer (some ⟨b, 0, none⟩)] w fun e w' => e = .returned (.int .i64 E) ∧ DiskIs w' (G B r) b D ∧ Frm (G B r) w w' := by
  subst hE hD
  unfold DiskD.reE DiskD.reD
  cases hd : d.down with
  | false =>
    simp only [Bool.false_eq_true, if_false]
    exact (restart_up h hd).mono (by rintro e w' ⟨rfl, rfl⟩; exact ⟨rfl, by rw [← hd]; exact h, Frm.refl _ _⟩)
  | true =>
    simp only [if_true]
    exact (restart_down h hd).mono (by rintro e w' ⟨rfl, k, f, _⟩; exact ⟨rfl, k, f⟩)
theorem bytes_g (h : DiskIs w (G B r) b d) {E : Int} {S : ByteArray} (hE : d.byE = E) (hS : d.byS = S) :
    Calls Try.prog 35 #[.pointer (some ⟨b, 0, none⟩)] w fun e w' => e = .returned (.tuple #[.string S, .int .i64 E]) ∧ w = w' := by
  subst hE hS
  unfold DiskD.byE DiskD.byS
  cases hd : d.down with
  | true => simp only [if_true]; exact bytes_down h hd
  | false => simp only [Bool.false_eq_true, if_false]; exact bytes_up h hd
theorem cut_g (h : DiskIs w (G B r) b d) (k : Int) {E : Int} {D : DiskD} (hE : d.cuE k = E) (hD : d.cuD k = D) :
    Calls Try.prog 33 #[.pointer (some ⟨b, 0, none⟩), .int .i64 k] w fun e w' => e = .returned (.int .i64 E) ∧ DiskIs w' (G B r) b D ∧ Frm (G B r) w w' := by
  subst hE hD
  unfold DiskD.cuE DiskD.cuD
  cases hd : d.down with
  | true => simp only [if_true]; exact (cut_down h hd k).mono (by rintro e w' ⟨rfl, rfl⟩; exact ⟨rfl, h, Frm.refl _ _⟩)
  | false =>
    by_cases hf : k < 0 ∨ (d.kept.length : Int) < k ∨ 0 < d.waits.length
    · simp only [Bool.false_eq_true, if_false, if_pos hf]
      exact (cut_bad h hd k hf).mono (by rintro e w' ⟨rfl, rfl⟩; exact ⟨rfl, h, Frm.refl _ _⟩)
    · simp only [Bool.false_eq_true, if_false, if_neg hf]
      have hk : (k.toNat : Int) = k := by omega
      have hw : d.waits = [] := List.eq_nil_of_length_eq_zero (by omega)
      have := cut_ok h hd k.toNat (by omega) hw
      rw [hk] at this
      exact this.mono (by rintro e w' ⟨rfl, k, f, _⟩; exact ⟨rfl, hd ▸ k, f⟩)
theorem room_g (h : DiskIs w (G B r) b d) {R : Int} (hR : d.room = R) :
    Calls Try.prog 37 #[.pointer (some ⟨b, 0, none⟩)] w fun e w' => e = .returned (.int .i64 R) ∧ ∃ n, w' = w.drewN n := by
  subst hR
  exact room_is h
end
end Go.Proofs.Ytheejjifcpjdbaa

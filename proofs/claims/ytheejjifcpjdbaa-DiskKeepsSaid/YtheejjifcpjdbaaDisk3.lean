/- The contracts of package disk, as the document tells them. -/
import Derived.Test.YtheejjifcpjdbaaDisk2
namespace Go.Proofs.Ytheejjifcpjdbaa
set_option linter.unusedVariables false
set_option linter.unusedSimpArgs false
open Go.RowKit Go.Lib Go.Tt

def DiskIs (w : World) (F : Nat → Prop) (b : Nat) (d : DiskD) : Prop := ∃ kp kc dp dc, DiskAt w F b d kp kc dp dc

theorem DiskIs.mono {w : World} {F G : Nat → Prop} {b : Nat} {d : DiskD} (h : DiskIs w F b d) (hs : ∀ k, k < w.heap.size → F k → G k) : DiskIs w G b d := by
  obtain ⟨kp, kc, dp, dc, h⟩ := h
  exact ⟨kp, kc, dp, dc, h.blk, hs _ h.lt h.foot, ⟨h.kO.own, fun g hg => hs _ (own_lt h.kO.own hg) (h.kO.foot g hg)⟩, ⟨h.wO.own, fun g hg => hs _ (own_lt h.wO.own hg) (h.wO.foot g hg)⟩, h.apart, h.s0, h.s1, h.room⟩
/-- A disk stands where its footprint stands. -/
theorem DiskIs.frm {w w' : World} {F G : Nat → Prop} {b : Nat} {d : DiskD} (h : DiskIs w F b d) (hf : Frm G w w') (hd : ∀ k, F k → ¬ G k) : DiskIs w' F b d := by
  obtain ⟨kp, kc, dp, dc, h⟩ := h
  exact ⟨kp, kc, dp, dc, hf.obj h.blk (hd _ h.foot), h.foot, ⟨own_frm h.kO.own hf fun g hg => hd _ (h.kO.foot g hg), h.kO.foot⟩, ⟨own_frm h.wO.own hf fun g hg => hd _ (h.wO.foot g hg), h.wO.foot⟩, h.apart, h.s0, h.s1, h.room⟩
theorem DiskIs.drewN {w : World} {F : Nat → Prop} {b : Nat} {d : DiskD} (h : DiskIs w F b d) (n : Nat) : DiskIs (w.drewN n) F b d :=
  h.frm (G := No) (Frm.drewN No w n) fun _ _ h => h

/-- What comes of an append onto one of the disk's rows. -/
theorem grown_frm {w w0 w1 : World} {F : Nat → Prop} {v : Value} {n : Nat} (h0 : w0 = w.drewN n) (g1 : w0.grownBy w1 v.ownBlock) (hv : ∀ g, v.ownBlock = some g → F g) : Frm F w w1 := by
  subst h0
  exact ((Frm.drewN F w n).trans ((Frm.of_grown g1).mono fun k _ hk => hv k hk.symm))
theorem new_foot {w w0 w1 : World} {F : Nat → Prop} {v v' : Value} {n : Nat} {B e k m : Nat} {xs : List Value} (h0 : w0 = w.drewN n) (own : w1.ownsRow B e k v' m xs) (hat : v'.ownBlock = v.ownBlock ∨ v'.ownBlock = some w0.heap.size) (hv : ∀ g, v.ownBlock = some g → F g) :
    ∀ g, v'.ownBlock = some g → Nw F w w1 g := by
  subst h0
  intro g hg
  rcases hat with h | h
  · exact .inl (hv g (h ▸ hg))
  · rw [h] at hg
    obtain rfl := Option.some.inj hg
    exact .inr ⟨Nat.le_refl _, own_lt own h⟩
theorem new_ne {w w0 : World} {v v' : Value} {n b : Nat} (h0 : w0 = w.drewN n) (hat : v'.ownBlock = v.ownBlock ∨ v'.ownBlock = some w0.heap.size) (hv : v.ownBlock ≠ some b) (hb : b < w.heap.size) : v'.ownBlock ≠ some b := by
  subst h0
  rcases hat with h | h
  · rw [h]; exact hv
  · rw [h]
    intro e
    have : w.heap.size = b := Option.some.inj e
    omega

theorem append_ok {w : World} {F : Nat → Prop} {b : Nat} {d : DiskD} (h : DiskIs w F b d) (hd : d.down = false) (s : ByteArray) (hfit : (s.size : Int) ≤ d.size - d.kept.length - d.waits.length) :
    Calls Try.prog 25 #[.pointer (some ⟨b, 0, none⟩), .string s] w fun e w' => e = .returned (.int .i64 0) ∧ DiskIs w' (Nw F w w') b { d with waits := d.waits ++ s.data.toList } ∧ Frm F w w' := by
  obtain ⟨kp, kc, dp, dc, h⟩ := h
  refine (append_walk h hd s hfit).mono ?_
  rintro e w' ⟨rfl, w0, a', c', w1, ⟨n, hn⟩, o1, g1, at1, rfl⟩
  have hsz : s.data.toList.length = s.size := by rw [Array.length_toList]; rfl
  have f1 := grown_frm hn g1 h.wO.foot
  have hne := new_ne hn at1 h.dne h.lt
  have hb1 : w1.heap[b]? = some (.cells #[.int .i64 d.size, .bool d.down, .slice kp d.kept.length kc, .slice dp d.waits.length dc] 94 (0, 0)) := by
    subst hn; exact (Frm.of_grown g1).obj h.blk (fun e => h.dne e.symm)
  have hk1 : w1.ownsRow 0 5 1 (.slice kp d.kept.length kc) d.kept.length (bcs d.kept) := by
    subst hn; exact own_frm (w := w.drewN n) h.kO.own (Frm.of_grown g1) fun g hg e => h.apart g hg e.symm
  refine ⟨rfl, ⟨kp, kc, a', c', ?_, ?_, ⟨?_, ?_⟩, ⟨?_, ?_⟩, ?_, h.s0, h.s1, ?_⟩, f1.trans (Frm.setCell _ _ _ h.foot)⟩
  · rw [obj_setCell hb1]; simp [hsz]
  · exact .inl h.foot
  · exact own_setCell hk1 h.kne _
  · exact fun g hg => .inl (h.kO.foot g hg)
  · have := own_setCell o1 hne (.slice a' (d.waits.length + s.size) c') (i := 3)
    rw [← bcs_str, ← bcs_app] at this
    simpa [hsz] using this
  · intro g hg
    have := new_foot hn o1 at1 h.wO.foot g (by simpa [hsz] using hg)
    simpa [Nw] using this
  · intro g hg e
    have hg' := own_lt h.kO.own hg
    exact new_ne hn at1 (fun e' => h.apart g hg e') hg' (by simpa [hsz] using e)
  · simp [hsz]; omega
end Go.Proofs.Ytheejjifcpjdbaa

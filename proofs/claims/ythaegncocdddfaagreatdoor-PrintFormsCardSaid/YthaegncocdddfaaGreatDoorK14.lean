/- Merged: Jump3 DocD2. -/
import Derived.Test.YthaegncocdddfaaGreatDoorK10
import Derived.Test.YthaegncocdddfaaGreatDoorK13
/- Jumps to three labels of one scope. No program in sight. -/
namespace Go.Tt
set_option linter.unusedVariables false
set_option linter.unusedSimpArgs false
set_option linter.unusedVariables false
set_option linter.unusedSimpArgs false
open Go.RowKit Go.Lib
/-- As Q; by a goto to label 0, 1, 2: J0, J1, J2. -/
def jump3 (J0 J1 J2 : Act → World → Prop) (Q : Exit → Act → World → Prop) : Exit → Act → World → Prop
  | .goto 0, a, w => J0 a w
  | .goto 1, a, w => J1 a w
  | .goto 2, a, w => J2 a w
  | .goto _, _, _ => False
  | e, a, w => Q e a w
def pickJ (J0 J1 J2 : Act → World → Prop) : Nat → Act → World → Prop
  | 0 => J0
  | 1 => J1
  | 2 => J2
  | _ => fun _ _ => False
theorem jump3_eq (J0 J1 J2 : Act → World → Prop) (Q : Exit → Act → World → Prop) (l : Nat) (a : Act) (w : World) : jump3 J0 J1 J2 Q (.goto l) a w ↔ pickJ J0 J1 J2 l a w := by
  match l with
  | 0 | 1 | 2 | n + 3 => exact Iff.rfl
theorem jump3_ret {J0 J1 J2 : Act → World → Prop} {Q : Exit → Act → World → Prop} {a : Act} {w : World} : jump3 J0 J1 J2 Q .ret a w = Q .ret a w := rfl
/-- A frame of N slots, spelled out. -/
theorem act_lit (a : Act) (N : Nat) (hs : a.tmps.size = N) (hd : a.defers = []) : a = { tmps := ((List.range N).map fun i => a.tmps.getD i undef).toArray, defers := [] } := by
  obtain ⟨t, d⟩ := a
  simp only at hs hd
  subst hd
  congr 1
  apply Array.ext
  · simp [hs]
  · intro i h1 h2
    simp [h1]
section
variable {P : Program} {a : Act} {w : World} {Q : Exit → Act → World → Prop}
theorem jumps3 {c r0 r1 r2 : Code} (J0 J1 J2 : Act → World → Prop) (μ0 μ1 μ2 : Act → World → Nat)
    (h0 : (∃ a w, J0 a w) → findLabel c 0 = some (Code.skip.seq r0)) (h1 : (∃ a w, J1 a w) → findLabel c 1 = some (Code.skip.seq r1)) (h2 : (∃ a w, J2 a w) → findLabel c 2 = some (Code.skip.seq r2))
    (first : ((∀ a w, J0 a w → r0.wp P (jump3 J0 J1 J2 Q) a w) ∧ (∀ a w, J1 a w → r1.wp P (jump3 J0 J1 J2 Q) a w) ∧ (∀ a w, J2 a w → r2.wp P (jump3 J0 J1 J2 Q) a w)) → c.wp P (jump3 J0 J1 J2 Q) a w)
    (pass0 : ∀ a w, J0 a w → r0.wp P (jump3 (fun a' w' => J0 a' w' ∧ μ0 a' w' < μ0 a w) (fun a' w' => J1 a' w' ∧ μ1 a' w' < μ0 a w) (fun a' w' => J2 a' w' ∧ μ2 a' w' < μ0 a w) Q) a w)
    (pass1 : ∀ a w, J1 a w → r1.wp P (jump3 (fun a' w' => J0 a' w' ∧ μ0 a' w' < μ1 a w) (fun a' w' => J1 a' w' ∧ μ1 a' w' < μ1 a w) (fun a' w' => J2 a' w' ∧ μ2 a' w' < μ1 a w) Q) a w)
    (pass2 : ∀ a w, J2 a w → r2.wp P (jump3 (fun a' w' => J0 a' w' ∧ μ0 a' w' < μ2 a w) (fun a' w' => J1 a' w' ∧ μ1 a' w' < μ2 a w) (fun a' w' => J2 a' w' ∧ μ2 a' w' < μ2 a w) Q) a w) : (Code.scope c).wp P Q a w := by
  have weak : ∀ {K0 K1 K2 : Act → World → Prop} (n : Nat) e a w, jump3 (fun a' w' => K0 a' w' ∧ μ0 a' w' < n) (fun a' w' => K1 a' w' ∧ μ1 a' w' < n) (fun a' w' => K2 a' w' ∧ μ2 a' w' < n) Q e a w → jump3 K0 K1 K2 Q e a w := by
    intro K0 K1 K2 n e a w h
    cases e with
    | goto l =>
      match l with
      | 0 | 1 | 2 => exact h.1
      | k + 3 => exact h
    | _ => exact h
  have hw : (∀ a w, J0 a w → r0.wp P (jump3 J0 J1 J2 Q) a w) ∧ (∀ a w, J1 a w → r1.wp P (jump3 J0 J1 J2 Q) a w) ∧ (∀ a w, J2 a w → r2.wp P (jump3 J0 J1 J2 Q) a w) :=
    ⟨fun a w h => wp_mono (pass0 a w h) (weak _), fun a w h => wp_mono (pass1 a w h) (weak _), fun a w h => wp_mono (pass2 a w h) (weak _)⟩
  -- one family of labels
  let J : Nat → Act → World → Prop := pickJ J0 J1 J2
  let μ : Nat → Act → World → Nat := fun l => match l with | 0 => μ0 | 1 => μ1 | _ => μ2
  have pass : ∀ l a w, J l a w → ∃ r, findLabel c l = some r ∧ r.wp P (fun e a' w' => match e with | .goto l' => J l' a' w' ∧ μ l' a' w' < μ l a w | e => Q e a' w') a w := by
    intro l a w h
    match l, h with
    | 0, h => exact ⟨_, h0 ⟨a, w, h⟩, wp_seq (wp_skip (wp_mono (pass0 a w h) fun e a' w' he => by
        cases e with
        | goto l' => match l', he with
          | 0, he | 1, he | 2, he => exact he
          | k + 3, he => exact he.elim
        | _ => exact he))⟩
    | 1, h => exact ⟨_, h1 ⟨a, w, h⟩, wp_seq (wp_skip (wp_mono (pass1 a w h) fun e a' w' he => by
        cases e with
        | goto l' => match l', he with
          | 0, he | 1, he | 2, he => exact he
          | k + 3, he => exact he.elim
        | _ => exact he))⟩
    | 2, h => exact ⟨_, h2 ⟨a, w, h⟩, wp_seq (wp_skip (wp_mono (pass2 a w h) fun e a' w' he => by
        cases e with
        | goto l' => match l', he with
          | 0, he | 1, he | 2, he => exact he
          | k + 3, he => exact he.elim
        | _ => exact he))⟩
    | k + 3, h => exact h.elim
  intro b k cs
  have hg : ∀ l r, findLabel c l = some r → gotoIn l (.inScope c :: k) = some (.code r :: .inScope c :: k) := fun l r h => by simp [gotoIn, h]
  have key : ∀ n l a w, μ l a w = n → J l a w → ∃ r, findLabel c l = some r ∧ ∃ e a' w', Q e a' w' ∧ Arrives P (lone (b.at a (.code r :: .inScope c :: k)) cs w) b k cs e a' w' := by
    intro n
    induction n using Nat.strongRecOn with
    | _ n ih =>
      intro l a w hn hJ
      obtain ⟨r, hr, hwp⟩ := pass l a w hJ
      obtain ⟨e, a₁, w₁, hq, harr⟩ := hwp b (.inScope c :: k) cs
      refine ⟨r, hr, ?_⟩
      cases e with
      | normal => exact ⟨.normal, a₁, w₁, hq, Steps.trans harr (.one step_inScope)⟩
      | exit id => exact ⟨.exit id, a₁, w₁, hq, fun k' hk => harr k' (by simp [exitTo, hk])⟩
      | goto l' =>
        obtain ⟨hJ', hlt⟩ := hq
        obtain ⟨r', hr', e₂, a₂, w₂, hq₂, harr₂⟩ := ih _ (by omega) l' a₁ w₁ rfl hJ'
        exact ⟨e₂, a₂, w₂, hq₂, .of_steps (harr _ (hg l' r' hr')) harr₂⟩
      | ret => exact ⟨_, a₁, w₁, hq, harr⟩
      | panic ch => exact ⟨_, a₁, w₁, hq, harr⟩
      | outgrown => exact ⟨_, a₁, w₁, hq, harr⟩
  obtain ⟨e, a₁, w₁, hq, harr⟩ := first hw b (.inScope c :: k) cs
  cases e with
  | normal => exact ⟨.normal, a₁, w₁, hq, .head step_scope (Steps.trans harr (.one step_inScope))⟩
  | exit id => exact ⟨.exit id, a₁, w₁, hq, fun k' hk => .head step_scope (harr k' (by simp [exitTo, hk]))⟩
  | goto l' =>
    obtain ⟨r', hr', e₂, a₂, w₂, hq₂, harr₂⟩ := key _ l' a₁ w₁ rfl ((jump3_eq J0 J1 J2 Q l' a₁ w₁).1 hq)
    exact ⟨e₂, a₂, w₂, hq₂, .of_steps (.head step_scope (harr _ (hg l' r' hr'))) harr₂⟩
  | ret => exact ⟨_, a₁, w₁, hq, .of_steps (.one step_scope) harr⟩
  | panic ch => exact ⟨_, a₁, w₁, hq, .of_steps (.one step_scope) harr⟩
  | outgrown => exact ⟨_, a₁, w₁, hq, .of_steps (.one step_scope) harr⟩
end
end Go.Tt

/- Whole documents in memory. -/
namespace Go.Proofs.YthaegncocdddfaaGreatDoor
set_option linter.unusedVariables false
set_option linter.unusedSimpArgs false
open Go.RowKit Go.Lib Go.Tt
/-- A document's cells. -/
structure DocC where
  m : Bool
  d : Sh
  s : Sh
  f : Sh
def DocC.l (v : DocC) : List Value := [.bool v.m, .slice v.d.p v.d.n v.d.c, .slice v.s.p v.s.n v.s.c, .slice v.f.p v.f.n v.f.c]
theorem DocC.one (v : DocC) : ∀ u ∈ v.l, u.oneCell' = true := by
  intro u hu
  simp [DocC.l] at hu
  rcases hu with rfl | rfl | rfl | rfl <;> rfl
def nilSh : Sh := ⟨none, 0, 0⟩
/-- Fragments of the call's own. -/
def OwFgs (w : World) : (Nat → Prop) → List FgC → List Fg → Prop
  | _, rs, [] => rs = []
  | F, rs, f :: fs => ∃ r rt G, rs = r :: rt ∧ (∀ k, G k → F k) ∧ (r.name = f.name ∧ r.on = f.on) ∧ OwSs w G (.slice r.s.p r.s.n r.s.c) f.sels ∧ OwFgs w (fun k => F k ∧ ¬ G k) rt fs
theorem OwFgs.frm {w w' : World} {X : Nat → Prop} (f : Frm X w w') : ∀ {fs : List Fg} {rs : List FgC} {F : Nat → Prop}, (∀ k, F k → ¬ X k) → OwFgs w F rs fs → OwFgs w' F rs fs
  | [], rs, F, hd, h => h
  | g :: fs, rs, F, hd, h => by
    obtain ⟨r, rt, G, h1, hG, hn, h2, h3⟩ := h
    exact ⟨r, rt, G, h1, hG, hn, h2.frm f fun k hk => hd k (hG k hk), OwFgs.frm f (fun k hk => hd k hk.1) h3⟩
theorem OwFgs.mono {w : World} : ∀ {fs : List Fg} {rs : List FgC} {F F' : Nat → Prop}, (∀ k, F k → F' k) → OwFgs w F rs fs → OwFgs w F' rs fs
  | [], rs, F, F', hs, h => h
  | g :: fs, rs, F, F', hs, h => by
    obtain ⟨r, rt, G, h1, hG, hn, h2, h3⟩ := h
    exact ⟨r, rt, G, h1, fun k hk => hs k (hG k hk), hn, h2, h3.mono fun k hk => ⟨hs k hk.1, hk.2⟩⟩
theorem OwFgs.snoc {w : World} {r : FgC} {f : Fg} {G : Nat → Prop} (hn : r.name = f.name ∧ r.on = f.on) (hs : OwSs w G (.slice r.s.p r.s.n r.s.c) f.sels) : ∀ {fs : List Fg} {rs : List FgC} {F : Nat → Prop}, (∀ k, G k → ¬ F k) → OwFgs w F rs fs → OwFgs w (fun k => F k ∨ G k) (rs ++ [r]) (fs ++ [f])
  | [], rs, F, hd, h => by
    have h : rs = [] := h
    subst h
    exact ⟨r, [], G, rfl, fun k hk => .inr hk, hn, hs, rfl⟩
  | g :: fs, rs, F, hd, h => by
    obtain ⟨r', rt, G', rfl, hG, hn', h2, h3⟩ := h
    refine ⟨r', rt ++ [r], G', rfl, fun k hk => .inl (hG k hk), hn', h2, (h3.snoc hn hs (F := fun k => F k ∧ ¬ G' k) fun k hk hF => hd k hk hF.1).mono fun k hk => ?_⟩
    rcases hk with hk | hk
    · exact ⟨.inl hk.1, hk.2⟩
    · exact ⟨.inr hk, fun h' => hd k hk (hG k h')⟩
theorem OwFgs.len {w : World} : ∀ {fs : List Fg} {rs : List FgC} {F : Nat → Prop}, OwFgs w F rs fs → rs.length = fs.length
  | [], rs, F, h => by have h : rs = [] := h; rw [h]; rfl
  | g :: fs, rs, F, h => by
    obtain ⟨r, rt, G, rfl, _, _, _, h3⟩ := h
    simp [h3.len]
/-- A document of the call's own: its parts in parts of F of their own. -/
def OwDoc (w : World) (F : Nat → Prop) (v : DocC) (d : Dm) : Prop :=
  v.m = d.mutn ∧ ∃ (D S G C : Nat → Prop) (rs : List FgC), (∀ k, D k → F k ∧ ¬ S k ∧ ¬ G k ∧ ¬ C k) ∧ (∀ k, S k → F k ∧ ¬ G k ∧ ¬ C k) ∧ (∀ k, G k → F k ∧ ¬ C k) ∧ (∀ k, C k → F k) ∧
    Ow w D 62 eDc (.slice v.d.p v.d.n v.d.c) d.decls ∧ OwSs w S (.slice v.s.p v.s.n v.s.c) d.sels ∧ Ow w G 53 eFg (.slice v.f.p v.f.n v.f.c) rs ∧ OwFgs w C rs d.frags
theorem OwDoc.frm {w w' : World} {F X : Nat → Prop} {v : DocC} {d : Dm} (h : OwDoc w F v d) (f : Frm X w w') (hd : ∀ k, F k → ¬ X k) : OwDoc w' F v d := by
  obtain ⟨h0, D, S, G, C, rs, h1, h2, h3, h4, h5, h6, h7, h8⟩ := h
  exact ⟨h0, D, S, G, C, rs, h1, h2, h3, h4, h5.frm f fun k hk => hd k (h1 k hk).1, h6.frm f fun k hk => hd k (h2 k hk).1, h7.frm f fun k hk => hd k (h3 k hk).1, OwFgs.frm f (fun k hk => hd k (h4 k hk)) h8⟩
theorem OwDoc.mono {w : World} {F F' : Nat → Prop} {v : DocC} {d : Dm} (h : OwDoc w F v d) (hs : ∀ k, F k → F' k) : OwDoc w F' v d := by
  obtain ⟨h0, D, S, G, C, rs, h1, h2, h3, h4, h5, h6, h7, h8⟩ := h
  exact ⟨h0, D, S, G, C, rs, fun k hk => ⟨hs k (h1 k hk).1, (h1 k hk).2⟩, fun k hk => ⟨hs k (h2 k hk).1, (h2 k hk).2⟩, fun k hk => ⟨hs k (h3 k hk).1, (h3 k hk).2⟩, fun k hk => hs k (h4 k hk), h5, h6, h7, h8⟩
theorem OwDoc.em (w : World) (F : Nat → Prop) : OwDoc w F ⟨false, nilSh, nilSh, nilSh⟩ emDm :=
  ⟨rfl, fun _ => False, fun _ => False, fun _ => False, fun _ => False, [], fun _ h => h.elim, fun _ h => h.elim, fun _ h => h.elim, fun _ h => h.elim, Ow.nil _ _ _ _ _, OwSs.nil _ _ _, Ow.nil _ _ _ _ _, rfl⟩
/-- What lies between two places. -/
def Bt (lo hi k : Nat) : Prop := lo ≤ k ∧ k < hi
theorem OwDoc.setM {w : World} {F : Nat → Prop} {v : DocC} {d : Dm} (h : OwDoc w F v d) (b : Bool) : OwDoc w F { v with m := b } { d with mutn := b } := by
  obtain ⟨h0, D, S, G, C, rs, h1, h2, h3, h4, h5, h6, h7, h8⟩ := h
  exact ⟨rfl, D, S, G, C, rs, h1, h2, h3, h4, h5, h6, h7, h8⟩
theorem Bt.up {M m m' k : Nat} (h : Bt M m k) (hm : m ≤ m') : Bt M m' k := ⟨h.1, Nat.lt_of_lt_of_le h.2 hm⟩
theorem OwDoc.setD {w : World} {M m : Nat} {v : DocC} {d : Dm} (h : OwDoc w (Bt M m) v d) {l : List Dc} {s : Sh} (ho : Ow w (fun k => m ≤ k) 62 eDc (.slice s.p s.n s.c) l) (hM : M ≤ m) (hm : m ≤ w.heap.size) : OwDoc w (Bt M w.heap.size) { v with d := s } { d with decls := l } := by
  obtain ⟨h0, D, S, G, C, rs, h1, h2, h3, h4, h5, h6, h7, h8⟩ := h
  have ho := ho.mono (G := Bt m w.heap.size) fun k hk h => ⟨h, hk⟩
  exact ⟨h0, Bt m w.heap.size, S, G, C, rs, fun k hk => ⟨⟨Nat.le_trans hM hk.1, hk.2⟩, fun h => absurd (h2 k h).1.2 (Nat.not_lt.2 hk.1), fun h => absurd (h3 k h).1.2 (Nat.not_lt.2 hk.1), fun h => absurd (h4 k h).2 (Nat.not_lt.2 hk.1)⟩,
    fun k hk => ⟨(h2 k hk).1.up hm, (h2 k hk).2⟩, fun k hk => ⟨(h3 k hk).1.up hm, (h3 k hk).2⟩, fun k hk => (h4 k hk).up hm, ho, h6, h7, h8⟩
theorem OwDoc.setS {w : World} {M m : Nat} {v : DocC} {d : Dm} (h : OwDoc w (Bt M m) v d) {l : List Sl} {s : Sh} (ho : OwSs w (Bt m w.heap.size) (.slice s.p s.n s.c) l) (hM : M ≤ m) (hm : m ≤ w.heap.size) : OwDoc w (Bt M w.heap.size) { v with s := s } { d with sels := l } := by
  obtain ⟨h0, D, S, G, C, rs, h1, h2, h3, h4, h5, h6, h7, h8⟩ := h
  exact ⟨h0, D, Bt m w.heap.size, G, C, rs, fun k hk => ⟨(h1 k hk).1.up hm, fun h => absurd (h1 k hk).1.2 (Nat.not_lt.2 h.1), (h1 k hk).2.2⟩, fun k hk => ⟨⟨Nat.le_trans hM hk.1, hk.2⟩, fun h => absurd (h3 k h).1.2 (Nat.not_lt.2 hk.1), fun h => absurd (h4 k h).2 (Nat.not_lt.2 hk.1)⟩,
    fun k hk => ⟨(h3 k hk).1.up hm, (h3 k hk).2⟩, fun k hk => (h4 k hk).up hm, h5, ho, h7, h8⟩
theorem OwDoc.openF {w : World} {M m : Nat} {v : DocC} {d : Dm} (h : OwDoc w (Bt M m) v d) : ∃ (G C : Nat → Prop) (rs : List FgC), (∀ k, G k → Bt M m k ∧ ¬ C k) ∧ (∀ k, C k → Bt M m k) ∧ Ow w G 53 eFg (.slice v.f.p v.f.n v.f.c) rs ∧ OwFgs w C rs d.frags ∧
    ∀ (w' : World) (X G' C' : Nat → Prop) (rs' : List FgC) (s : Sh) (fs : List Fg), Frm X w w' → m ≤ w'.heap.size → M ≤ m → (∀ k, X k → Bt M m k → G k) → (∀ k, G' k → (G k ∨ Bt m w'.heap.size k) ∧ ¬ C' k) → (∀ k, C' k → C k ∨ Bt m w'.heap.size k) → Ow w' G' 53 eFg (.slice s.p s.n s.c) rs' → OwFgs w' C' rs' fs →
      OwDoc w' (Bt M w'.heap.size) { v with f := s } { d with frags := fs } := by
  obtain ⟨h0, D, S, G, C, rs, h1, h2, h3, h4, h5, h6, h7, h8⟩ := h
  refine ⟨G, C, rs, h3, h4, h7, h8, fun w' X G' C' rs' s fs f hm hM hX hG hC hO hF => ⟨h0, D, S, G', C', rs', fun k hk => ⟨(h1 k hk).1.up hm, (h1 k hk).2.1, fun h => ?_, fun h => ?_⟩, fun k hk => ⟨(h2 k hk).1.up hm, fun h => ?_, fun h => ?_⟩, fun k hk => ⟨?_, (hG k hk).2⟩, fun k hk => ?_,
    h5.frm f fun k hk hx => (h1 k hk).2.2.1 (hX k hx (h1 k hk).1), h6.frm f fun k hk hx => (h2 k hk).2.1 (hX k hx (h2 k hk).1), hO, hF⟩⟩
  · rcases (hG k h).1 with h | h
    · exact (h1 k hk).2.2.1 h
    · exact absurd (h1 k hk).1.2 (Nat.not_lt.2 h.1)
  · rcases hC k h with h | h
    · exact (h1 k hk).2.2.2 h
    · exact absurd (h1 k hk).1.2 (Nat.not_lt.2 h.1)
  · rcases (hG k h).1 with h | h
    · exact (h2 k hk).2.1 h
    · exact absurd (h2 k hk).1.2 (Nat.not_lt.2 h.1)
  · rcases hC k h with h | h
    · exact (h2 k hk).2.2 h
    · exact absurd (h2 k hk).1.2 (Nat.not_lt.2 h.1)
  · rcases (hG k hk).1 with h | h
    · exact (h3 k h).1.up hm
    · exact ⟨Nat.le_trans hM h.1, h.2⟩
  · rcases hC k hk with h | h
    · exact (h4 k h).up hm
    · exact ⟨Nat.le_trans hM h.1, h.2⟩
end Go.Proofs.YthaegncocdddfaaGreatDoor

/- Merged: Plan2. -/
import Derived.Test.YthaegncocdddfaaGreatDoorK05
/- A region that draws its order, walked in ONE order, second part: what reads goes as early as it may; what writes or calls must be the only one that is ready; what was read ahead of a write that does not wait for it must read the same behind it ('Again'). -/
namespace Go.Tt
set_option linter.unusedVariables false
set_option linter.unusedSimpArgs false
set_option linter.unusedVariables false
set_option linter.unusedSimpArgs false
section
variable {P : Program} {ops : Array Oper} {md : Region.Mode} {N : Act → World → Prop}

/-- Only a normal end. -/
def Nrm (N : Act → World → Prop) : Exit → Act → World → Prop := Exit.then N fun _ _ _ => False
theorem nrm_out (N : Act → World → Prop) : ¬ LetsOut (Nrm N) := fun ⟨_, _, h⟩ => h

/-- The operation yields v in this world. -/
def Yld (P : Program) (ops : Array Oper) (o : Oper) (v : Value) (a : Act) (w : World) : Prop :=
  (Region.wanted o (yielded ops a.tmps) = true ∧ (execOp a.eval o).run P w = .ok (.value v) w) ∨ (Region.wanted o (yielded ops a.tmps) = false ∧ v = undef)

theorem yld_put {o : Oper} {v : Value} {a : Act} {w : World} {dst : Option Tmp} {u : Value} (hs : ∀ cs b, o.op ≠ .select cs b) (h : ∀ d, dst = some d → d ∉ o.looksAt ops) :
    Yld P ops o v (a.put dst u) w ↔ Yld P ops o v a w := by
  unfold Yld
  rw [execOp_put o hs a dst u h, wanted_put o a dst u h]

def wpAnyP (P : Program) (md : Region.Mode) (ops : Array Oper) (N : Act → World → Prop) (S : Array Bool → Act → World → Prop) : Nat → Array Bool → Act → World → Prop
  | 0, l, a, w => S l a w ∧ Region.ready md ops l = [] ∧ N a w
  | f + 1, l, a, w => S l a w ∧ (Region.ready md ops l = [] → N a w) ∧ ∀ i ∈ Region.ready md ops l, wpOp P ops (Nrm N) i (wpAnyP P md ops N S f (l.setIfInBounds i true)) a w

theorem wpAnyP_forget {S : Array Bool → Act → World → Prop} : ∀ (f : Nat) (l : Array Bool) (a : Act) (w : World), wpAnyP P md ops N S f l a w → wpAny P md ops (Nrm N) f l a w
  | 0, _, _, _, h => ⟨h.2.1, h.2.2⟩
  | f + 1, _, _, _, h => ⟨h.2.1, fun i hi => wpOp_mono (fun a w => wpAnyP_forget f _ a w) (h.2.2 i hi)⟩

def Sup (l l' : Array Bool) : Prop := ∀ j, l.getD j false = true → l'.getD j false = true
theorem sup_set (l : Array Bool) (i : Nat) : Sup l (l.setIfInBounds i true) := fun _ h => getD_set_true h
theorem wpAnyP_mono {S S2 : Array Bool → Act → World → Prop} : ∀ (f : Nat) (l : Array Bool) (a : Act) (w : World), (∀ l' a' w', Sup l l' → S l' a' w' → S2 l' a' w') →
    wpAnyP P md ops N S f l a w → wpAnyP P md ops N S2 f l a w
  | 0, _, _, _, hS, h => ⟨hS _ _ _ (fun _ h => h) h.1, h.2⟩
  | f + 1, l, _, _, hS, h => ⟨hS _ _ _ (fun _ h => h) h.1, h.2.1, fun i hi => wpOp_mono (fun a w => wpAnyP_mono f _ a w fun l' a' w' hs => hS l' a' w' fun j hj => hs j (sup_set l i j hj)) (h.2.2 i hi)⟩

theorem wpAnyP_S {S : Array Bool → Act → World → Prop} {f : Nat} {l : Array Bool} {a : Act} {w : World} (h : wpAnyP P md ops N S f l a w) : S l a w := by cases f <;> exact h.1

def Closed (md : Region.Mode) (ops : Array Oper) (l : Array Bool) : Prop := ∀ (j : Nat) (oj : Oper), ops[j]? = some oj → l.getD j false = true → ∀ e ∈ oj.after, Region.binds md e = true → l.getD e.on false = true
theorem closed_set {l : Array Bool} {i : Nat} (hc : Closed md ops l) (hi : i ∈ Region.ready md ops l) : Closed md ops (l.setIfInBounds i true) := by
  obtain ⟨_, oi, hoi, hall⟩ := mem_ready.1 hi
  intro j oj hj hl e he hb
  by_cases hij : i = j
  · subst hij
    have : oj = oi := Option.some.inj (hj.symm.trans hoi)
    subst this
    exact getD_set_true (hall e he hb)
  · rw [getD_set_ne false hij] at hl
    exact getD_set_true (hc j oj hj hl e he hb)
theorem not_listed {l : Array Bool} {i : Nat} (h : l.getD i true = false) : l.getD i false = false := by
  rcases Nat.lt_or_ge i l.size with h' | h'
  · simp [h'] at h ⊢; exact h
  · simp [Array.getElem?_eq_none h'] at h

theorem wpOp_putN {j : Nat} {oi oj : Oper} {v : Value} (hj : ops[j]? = some oj) (hap : oi.apart ops oj = true) (hsj : ∀ cs b, oj.op ≠ .select cs b) {K : Act → World → Prop} {a : Act} {w : World}
    (h : wpOp P ops (Nrm N) j K (a.put oi.dst v) w) : wpOp P ops (Nrm N) j (fun a' w' => K (a'.put oi.dst v) w') a w := by
  obtain ⟨h1, h2, _⟩ := Oper.apart_spec hap
  unfold wpOp at *
  simp only [hj] at *
  rw [wanted_put oj a oi.dst v h1] at h
  split
  · rename_i hw
    simp only [hw, if_true] at h
    rcases h with h | ⟨_, hlets⟩
    case inr => exact absurd hlets (nrm_out N)
    refine .inl ?_
    unfold Oper.wp at *
    rw [execOp_put oj hsj a oi.dst v h1] at h
    generalize (execOp a.eval oj).run P w = r at *
    cases r with
    | ok n w' =>
      cases n <;> simp only [Oper.upon] at h ⊢
      case value u => rw [← Act.put_comm a v u h2]; exact h
      case skip => rw [← Act.put_comm a v undef h2]; exact h
      case defer d =>
        rw [← Act.put_comm _ v undef h2, ← Act.put_defers]
        exact h
      case enter f args =>
        refine Calls.mono h fun e w'' he => ?_
        cases e with
        | returned u => show K _ _; rw [← Act.put_comm a v u h2]; exact he
        | panicked c => exact he
        | outgrown => exact he
      case row row args => exact Rows.mono h fun u w'' he => by show K _ _; rw [← Act.put_comm a v u h2]; exact he
    | halt x w' =>
      cases x <;> simp only [Oper.upon] at h ⊢
      case panic u => exact h
  · rename_i hw
    simp only [hw] at h
    rw [← Act.put_comm a v undef h2]
    exact h

/-- What stays known of an operation that has been taken: some writer that waits for it has gone, or it yields still. -/
def Pd (P : Program) (ops : Array Oper) (rel : Nat → Bool) (o : Oper) (v : Value) (l : Array Bool) (a : Act) (w : World) : Prop :=
  (∃ j, rel j = true ∧ l.getD j false = true) ∨ Yld P ops o v a w

/-- A reading that is taken first. -/
theorem wpAnyP_read {i : Nat} {oi : Oper} {v : Value} (hi : ops[i]? = some oi) (hsel : Region.noSelect ops = true) {rel : Nat → Bool} (hri : rel i = false)
    (hrel : ∀ l, Closed md ops l → ∀ j, rel j = true → l.getD j false = true → l.getD i false = true) (hself : ∀ d, oi.dst = some d → d ∉ oi.looksAt ops)
    {S : Array Bool → Act → World → Prop} (hins : ∀ l a w, S (l.setIfInBounds i true) (a.put oi.dst v) w → S l a w) :
    ∀ (f : Nat) (l : Array Bool) (a : Act) (w : World), Closed md ops l →
      (∀ j oj, ops[j]? = some oj → j ≠ i → l.getD j true = false → (∀ e ∈ oj.after, Region.binds md e = true → e.on ≠ i) → oi.apart ops oj = true) →
      i ∈ Region.ready md ops l → wpAnyP P md ops N (fun l a w => S l a w ∧ Pd P ops rel oi v l a w) f (l.setIfInBounds i true) (a.put oi.dst v) w → wpAnyP P md ops N S (f + 1) l a w := by
  have sel := Region.noSelect_spec hsel
  have here : ∀ (f : Nat) (l : Array Bool) (a : Act) (w : World), Closed md ops l → i ∈ Region.ready md ops l →
      wpAnyP P md ops N (fun l a w => S l a w ∧ Pd P ops rel oi v l a w) f (l.setIfInBounds i true) (a.put oi.dst v) w → wpOp P ops (Nrm N) i (wpAnyP P md ops N S f (l.setIfInBounds i true)) a w := by
    intro f l a w hc hr H
    have hun := not_listed (mem_ready.1 hr).1
    have hy : Yld P ops oi v a w := by
      rcases (wpAnyP_S H).2 with ⟨j, hj, hl⟩ | hy
      · have hne : i ≠ j := fun e => by subst e; rw [hri] at hj; cases hj
        rw [getD_set_ne false hne] at hl
        rw [hrel l hc j hj hl] at hun
        cases hun
      · exact (yld_put (sel i oi · · hi) hself).1 hy
    have H' := wpAnyP_mono (S2 := S) f _ _ _ (fun _ _ _ _ h => h.1) H
    unfold wpOp
    simp only [hi]
    rcases hy with ⟨hw, hv⟩ | ⟨hw, rfl⟩
    · simp only [hw, if_true, Oper.wp, hv, Oper.upon]; exact .inl H'
    · simp only [hw, Bool.false_eq_true, if_false]; exact H'
  intro f
  induction f with
  | zero =>
    intro l a w hc _ hr H
    refine ⟨hins _ _ _ (wpAnyP_S H).1, fun h => (by rw [h] at hr; cases hr), fun j hj => ?_⟩
    by_cases hji : j = i
    · subst hji; exact here 0 l a w hc hr H
    · have := ready_mono hj hji
      rw [H.2.1] at this
      cases this
  | succ f ih =>
    intro l a w hc hfree hr H
    refine ⟨hins _ _ _ (wpAnyP_S H).1, fun h => (by rw [h] at hr; cases hr), fun j hj => ?_⟩
    by_cases hji : j = i
    · subst hji; exact here (f + 1) l a w hc hr H
    · have h1 := H.2.2 j (ready_mono hj hji)
      obtain ⟨hjun, oj, hoj, hall⟩ := mem_ready.1 hj
      have hnot : ∀ e ∈ oj.after, Region.binds md e = true → e.on ≠ i := fun e he hb heq => by
        have h1 := hall e he hb
        rw [heq, not_listed (mem_ready.1 hr).1] at h1
        cases h1
      have h2 := wpOp_putN hoj (hfree j oj hoj hji hjun hnot) (sel j oj · · hoj) h1
      have hfree' : ∀ k ok, ops[k]? = some ok → k ≠ i → (l.setIfInBounds j true).getD k true = false →
          (∀ e ∈ ok.after, Region.binds md e = true → e.on ≠ i) → oi.apart ops ok = true := fun k ok hk hki hun hno => by
        refine hfree k ok hk hki ?_ hno
        by_cases hjk : j = k
        · subst hjk; exact hjun
        · rw [getD_set_ne true hjk] at hun; exact hun
      refine wpOp_mono (fun a' w' h3 => ih (l.setIfInBounds j true) a' w' (closed_set hc hj) hfree' (ready_mono hr (Ne.symm hji)) ?_) h2
      rw [Array.setIfInBounds_comm _ _ hji]
      exact h3

/-- What yields one value in every world is taken first. -/
theorem wpAnyP_const {i : Nat} {oi : Oper} {v : Value} (hi : ops[i]? = some oi) (hsel : Region.noSelect ops = true)
    {S : Array Bool → Act → World → Prop} (hins : ∀ l a w, S (l.setIfInBounds i true) (a.put oi.dst v) w → S l a w) :
    ∀ (f : Nat) (l : Array Bool) (a : Act) (w : World),
      (∀ j oj, ops[j]? = some oj → j ≠ i → l.getD j true = false → (∀ e ∈ oj.after, Region.binds md e = true → e.on ≠ i) → oi.apart ops oj = true) →
      i ∈ Region.ready md ops l → Yields P ops oi v a → wpAnyP P md ops N S f (l.setIfInBounds i true) (a.put oi.dst v) w → wpAnyP P md ops N S (f + 1) l a w := by
  have sel := Region.noSelect_spec hsel
  intro f
  induction f with
  | zero =>
    intro l a w _ hr hy H
    refine ⟨hins _ _ _ (wpAnyP_S H), fun h => (by rw [h] at hr; cases hr), fun j hj => ?_⟩
    by_cases hji : j = i
    · subst hji; exact hy.wpOp hi H
    · have := ready_mono hj hji
      rw [H.2.1] at this
      cases this
  | succ f ih =>
    intro l a w hfree hr hy H
    refine ⟨hins _ _ _ (wpAnyP_S H), fun h => (by rw [h] at hr; cases hr), fun j hj => ?_⟩
    by_cases hji : j = i
    · subst hji; exact hy.wpOp hi H
    · have h1 := H.2.2 j (ready_mono hj hji)
      obtain ⟨hjun, oj, hoj, hall⟩ := mem_ready.1 hj
      have hnot : ∀ e ∈ oj.after, Region.binds md e = true → e.on ≠ i := fun e he hb heq => by
        have h1 := hall e he hb
        rw [heq, not_listed (mem_ready.1 hr).1] at h1
        cases h1
      have h2 := wpOp_put hoj (hfree j oj hoj hji hjun hnot) (sel i oi · · hi) (sel j oj · · hoj) (fun _ _ _ h => h) hy h1
      have hfree' : ∀ k ok, ops[k]? = some ok → k ≠ i → (l.setIfInBounds j true).getD k true = false →
          (∀ e ∈ ok.after, Region.binds md e = true → e.on ≠ i) → oi.apart ops ok = true := fun k ok hk hki hun hno => by
        refine hfree k ok hk hki ?_ hno
        by_cases hjk : j = k
        · subst hjk; exact hjun
        · rw [getD_set_ne true hjk] at hun; exact hun
      refine wpOp_mono (fun a' w' h3 => ih (l.setIfInBounds j true) a' w' hfree' (ready_mono hr (Ne.symm hji)) h3.1 ?_) h2
      rw [Array.setIfInBounds_comm _ _ hji]
      exact h3.2

theorem wpAnyP_only {i : Nat} {S : Array Bool → Act → World → Prop} {f : Nat} {l : Array Bool} {a : Act} {w : World} (hr : Region.ready md ops l = [i]) (hS : S l a w)
    (h : wpOp P ops (Nrm N) i (wpAnyP P md ops N S f (l.setIfInBounds i true)) a w) : wpAnyP P md ops N S (f + 1) l a w :=
  ⟨hS, fun h0 => (by rw [hr] at h0; cases h0), fun j hj => by
    rw [hr] at hj
    have : j = i := by simpa using hj
    subst this
    exact h⟩
end
end Go.Tt

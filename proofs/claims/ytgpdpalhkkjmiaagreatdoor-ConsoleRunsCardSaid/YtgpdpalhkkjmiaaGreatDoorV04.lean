/- Merged: Plan2 Plan3. -/
import Derived.RegionTactic
import Derived.Test.YtgpdpalhkkjmiaaGreatDoorV03
/- A region that draws its order, walked in ONE order, second part: what reads goes as early as it may; what writes or calls must be the only one that is ready; what was read ahead of a write that does not wait for it must read the same behind it ('Again'). -/
namespace Go.Tt
set_option linter.unusedVariables false
set_option linter.unusedSimpArgs false
set_option linter.unusedVariables false
set_option linter.unusedSimpArgs false
section
variable {P : Program} {ops : Array Oper} {md : Region.Mode} {N : Act → World → Prop}

/-- Only a normal end. -/
def Nrm (N : Act → World → Prop) : Exit → Act → World → Prop := Exit.then N fun _ _ _ => False
theorem nrm_out (N : Act → World → Prop) : ¬ LetsOut (Nrm N) := fun ⟨_, _, h⟩ => h

/-- The operation yields v in this world. -/
def Yld (P : Program) (ops : Array Oper) (o : Oper) (v : Value) (a : Act) (w : World) : Prop :=
  (Region.wanted o (yielded ops a.tmps) = true ∧ (execOp a.eval o).run P w = .ok (.value v) w) ∨ (Region.wanted o (yielded ops a.tmps) = false ∧ v = undef)

theorem yld_put {o : Oper} {v : Value} {a : Act} {w : World} {dst : Option Tmp} {u : Value} (hs : ∀ cs b, o.op ≠ .select cs b) (h : ∀ d, dst = some d → d ∉ o.looksAt ops) :
    Yld P ops o v (a.put dst u) w ↔ Yld P ops o v a w := by
  unfold Yld
  rw [execOp_put o hs a dst u h, wanted_put o a dst u h]

def wpAnyP (P : Program) (md : Region.Mode) (ops : Array Oper) (N : Act → World → Prop) (S : Array Bool → Act → World → Prop) : Nat → Array Bool → Act → World → Prop
  | 0, l, a, w => S l a w ∧ Region.ready md ops l = [] ∧ N a w
  | f + 1, l, a, w => S l a w ∧ (Region.ready md ops l = [] → N a w) ∧ ∀ i ∈ Region.ready md ops l, wpOp P ops (Nrm N) i (wpAnyP P md ops N S f (l.setIfInBounds i true)) a w

theorem wpAnyP_forget {S : Array Bool → Act → World → Prop} : ∀ (f : Nat) (l : Array Bool) (a : Act) (w : World), wpAnyP P md ops N S f l a w → wpAny P md ops (Nrm N) f l a w
  | 0, _, _, _, h => ⟨h.2.1, h.2.2⟩
  | f + 1, _, _, _, h => ⟨h.2.1, fun i hi => wpOp_mono (fun a w => wpAnyP_forget f _ a w) (h.2.2 i hi)⟩

def Sup (l l' : Array Bool) : Prop := ∀ j, l.getD j false = true → l'.getD j false = true
theorem sup_set (l : Array Bool) (i : Nat) : Sup l (l.setIfInBounds i true) := fun _ h => getD_set_true h
theorem wpAnyP_mono {S S2 : Array Bool → Act → World → Prop} : ∀ (f : Nat) (l : Array Bool) (a : Act) (w : World), (∀ l' a' w', Sup l l' → S l' a' w' → S2 l' a' w') →
    wpAnyP P md ops N S f l a w → wpAnyP P md ops N S2 f l a w
  | 0, _, _, _, hS, h => ⟨hS _ _ _ (fun _ h => h) h.1, h.2⟩
  | f + 1, l, _, _, hS, h => ⟨hS _ _ _ (fun _ h => h) h.1, h.2.1, fun i hi => wpOp_mono (fun a w => wpAnyP_mono f _ a w fun l' a' w' hs => hS l' a' w' fun j hj => hs j (sup_set l i j hj)) (h.2.2 i hi)⟩

theorem wpAnyP_S {S : Array Bool → Act → World → Prop} {f : Nat} {l : Array Bool} {a : Act} {w : World} (h : wpAnyP P md ops N S f l a w) : S l a w := by cases f <;> exact h.1

def Closed (md : Region.Mode) (ops : Array Oper) (l : Array Bool) : Prop := ∀ (j : Nat) (oj : Oper), ops[j]? = some oj → l.getD j false = true → ∀ e ∈ oj.after, Region.binds md e = true → l.getD e.on false = true
theorem closed_set {l : Array Bool} {i : Nat} (hc : Closed md ops l) (hi : i ∈ Region.ready md ops l) : Closed md ops (l.setIfInBounds i true) := by
  obtain ⟨_, oi, hoi, hall⟩ := mem_ready.1 hi
  intro j oj hj hl e he hb
  by_cases hij : i = j
  · subst hij
    have : oj = oi := Option.some.inj (hj.symm.trans hoi)
    subst this
    exact getD_set_true (hall e he hb)
  · rw [getD_set_ne false hij] at hl
    exact getD_set_true (hc j oj hj hl e he hb)
theorem not_listed {l : Array Bool} {i : Nat} (h : l.getD i true = false) : l.getD i false = false := by
  rcases Nat.lt_or_ge i l.size with h' | h'
  · simp [h'] at h ⊢; exact h
  · simp [Array.getElem?_eq_none h'] at h

theorem wpOp_putN {j : Nat} {oi oj : Oper} {v : Value} (hj : ops[j]? = some oj) (hap : oi.apart ops oj = true) (hsj : ∀ cs b, oj.op ≠ .select cs b) {K : Act → World → Prop} {a : Act} {w : World}
    (h : wpOp P ops (Nrm N) j K (a.put oi.dst v) w) : wpOp P ops (Nrm N) j (fun a' w' => K (a'.put oi.dst v) w') a w := by
  obtain ⟨h1, h2, _⟩ := Oper.apart_spec hap
  unfold wpOp at *
  simp only [hj] at *
  rw [wanted_put oj a oi.dst v h1] at h
  split
  · rename_i hw
    simp only [hw, if_true] at h
    rcases h with h | ⟨_, hlets⟩
    case inr => exact absurd hlets (nrm_out N)
    refine .inl ?_
    unfold Oper.wp at *
    rw [execOp_put oj hsj a oi.dst v h1] at h
    generalize (execOp a.eval oj).run P w = r at *
    cases r with
    | ok n w' =>
      cases n <;> simp only [Oper.upon] at h ⊢
      case value u => rw [← Act.put_comm a v u h2]; exact h
      case skip => rw [← Act.put_comm a v undef h2]; exact h
      case defer d =>
        rw [← Act.put_comm _ v undef h2, ← Act.put_defers]
        exact h
      case enter f args =>
        refine Calls.mono h fun e w'' he => ?_
        cases e with
        | returned u => show K _ _; rw [← Act.put_comm a v u h2]; exact he
        | panicked c => exact he
        | outgrown => exact he
      case row row args => exact Rows.mono h fun u w'' he => by show K _ _; rw [← Act.put_comm a v u h2]; exact he
    | halt x w' =>
      cases x <;> simp only [Oper.upon] at h ⊢
      case panic u => exact h
  · rename_i hw
    simp only [hw] at h
    rw [← Act.put_comm a v undef h2]
    exact h

/-- What stays known of an operation that has been taken: some writer that waits for it has gone, or it yields still. -/
def Pd (P : Program) (ops : Array Oper) (rel : Nat → Bool) (o : Oper) (v : Value) (l : Array Bool) (a : Act) (w : World) : Prop :=
  (∃ j, rel j = true ∧ l.getD j false = true) ∨ Yld P ops o v a w

/-- A reading that is taken first. -/
theorem wpAnyP_read {i : Nat} {oi : Oper} {v : Value} (hi : ops[i]? = some oi) (hsel : Region.noSelect ops = true) {rel : Nat → Bool} (hri : rel i = false)
    (hrel : ∀ l, Closed md ops l → ∀ j, rel j = true → l.getD j false = true → l.getD i false = true) (hself : ∀ d, oi.dst = some d → d ∉ oi.looksAt ops)
    {S : Array Bool → Act → World → Prop} (hins : ∀ l a w, S (l.setIfInBounds i true) (a.put oi.dst v) w → S l a w) :
    ∀ (f : Nat) (l : Array Bool) (a : Act) (w : World), Closed md ops l →
      (∀ j oj, ops[j]? = some oj → j ≠ i → l.getD j true = false → (∀ e ∈ oj.after, Region.binds md e = true → e.on ≠ i) → oi.apart ops oj = true) →
      i ∈ Region.ready md ops l → wpAnyP P md ops N (fun l a w => S l a w ∧ Pd P ops rel oi v l a w) f (l.setIfInBounds i true) (a.put oi.dst v) w → wpAnyP P md ops N S (f + 1) l a w := by
  have sel := Region.noSelect_spec hsel
  have here : ∀ (f : Nat) (l : Array Bool) (a : Act) (w : World), Closed md ops l → i ∈ Region.ready md ops l →
      wpAnyP P md ops N (fun l a w => S l a w ∧ Pd P ops rel oi v l a w) f (l.setIfInBounds i true) (a.put oi.dst v) w → wpOp P ops (Nrm N) i (wpAnyP P md ops N S f (l.setIfInBounds i true)) a w := by
    intro f l a w hc hr H
    have hun := not_listed (mem_ready.1 hr).1
    have hy : Yld P ops oi v a w := by
      rcases (wpAnyP_S H).2 with ⟨j, hj, hl⟩ | hy
      · have hne : i ≠ j := fun e => by subst e; rw [hri] at hj; cases hj
        rw [getD_set_ne false hne] at hl
        rw [hrel l hc j hj hl] at hun
        cases hun
      · exact (yld_put (sel i oi · · hi) hself).1 hy
    have H' := wpAnyP_mono (S2 := S) f _ _ _ (fun _ _ _ _ h => h.1) H
    unfold wpOp
    simp only [hi]
    rcases hy with ⟨hw, hv⟩ | ⟨hw, rfl⟩
    · simp only [hw, if_true, Oper.wp, hv, Oper.upon]; exact .inl H'
    · simp only [hw, Bool.false_eq_true, if_false]; exact H'
  intro f
  induction f with
  | zero =>
    intro l a w hc _ hr H
    refine ⟨hins _ _ _ (wpAnyP_S H).1, fun h => (by rw [h] at hr; cases hr), fun j hj => ?_⟩
    by_cases hji : j = i
    · subst hji; exact here 0 l a w hc hr H
    · have := ready_mono hj hji
      rw [H.2.1] at this
      cases this
  | succ f ih =>
    intro l a w hc hfree hr H
    refine ⟨hins _ _ _ (wpAnyP_S H).1, fun h => (by rw [h] at hr; cases hr), fun j hj => ?_⟩
    by_cases hji : j = i
    · subst hji; exact here (f + 1) l a w hc hr H
    · have h1 := H.2.2 j (ready_mono hj hji)
      obtain ⟨hjun, oj, hoj, hall⟩ := mem_ready.1 hj
      have hnot : ∀ e ∈ oj.after, Region.binds md e = true → e.on ≠ i := fun e he hb heq => by
        have h1 := hall e he hb
        rw [heq, not_listed (mem_ready.1 hr).1] at h1
        cases h1
      have h2 := wpOp_putN hoj (hfree j oj hoj hji hjun hnot) (sel j oj · · hoj) h1
      have hfree' : ∀ k ok, ops[k]? = some ok → k ≠ i → (l.setIfInBounds j true).getD k true = false →
          (∀ e ∈ ok.after, Region.binds md e = true → e.on ≠ i) → oi.apart ops ok = true := fun k ok hk hki hun hno => by
        refine hfree k ok hk hki ?_ hno
        by_cases hjk : j = k
        · subst hjk; exact hjun
        · rw [getD_set_ne true hjk] at hun; exact hun
      refine wpOp_mono (fun a' w' h3 => ih (l.setIfInBounds j true) a' w' (closed_set hc hj) hfree' (ready_mono hr (Ne.symm hji)) ?_) h2
      rw [Array.setIfInBounds_comm _ _ hji]
      exact h3

/-- What yields one value in every world is taken first. -/
theorem wpAnyP_const {i : Nat} {oi : Oper} {v : Value} (hi : ops[i]? = some oi) (hsel : Region.noSelect ops = true)
    {S : Array Bool → Act → World → Prop} (hins : ∀ l a w, S (l.setIfInBounds i true) (a.put oi.dst v) w → S l a w) :
    ∀ (f : Nat) (l : Array Bool) (a : Act) (w : World),
      (∀ j oj, ops[j]? = some oj → j ≠ i → l.getD j true = false → (∀ e ∈ oj.after, Region.binds md e = true → e.on ≠ i) → oi.apart ops oj = true) →
      i ∈ Region.ready md ops l → Yields P ops oi v a → wpAnyP P md ops N S f (l.setIfInBounds i true) (a.put oi.dst v) w → wpAnyP P md ops N S (f + 1) l a w := by
  have sel := Region.noSelect_spec hsel
  intro f
  induction f with
  | zero =>
    intro l a w _ hr hy H
    refine ⟨hins _ _ _ (wpAnyP_S H), fun h => (by rw [h] at hr; cases hr), fun j hj => ?_⟩
    by_cases hji : j = i
    · subst hji; exact hy.wpOp hi H
    · have := ready_mono hj hji
      rw [H.2.1] at this
      cases this
  | succ f ih =>
    intro l a w hfree hr hy H
    refine ⟨hins _ _ _ (wpAnyP_S H), fun h => (by rw [h] at hr; cases hr), fun j hj => ?_⟩
    by_cases hji : j = i
    · subst hji; exact hy.wpOp hi H
    · have h1 := H.2.2 j (ready_mono hj hji)
      obtain ⟨hjun, oj, hoj, hall⟩ := mem_ready.1 hj
      have hnot : ∀ e ∈ oj.after, Region.binds md e = true → e.on ≠ i := fun e he hb heq => by
        have h1 := hall e he hb
        rw [heq, not_listed (mem_ready.1 hr).1] at h1
        cases h1
      have h2 := wpOp_put hoj (hfree j oj hoj hji hjun hnot) (sel i oi · · hi) (sel j oj · · hoj) (fun _ _ _ h => h) hy h1
      have hfree' : ∀ k ok, ops[k]? = some ok → k ≠ i → (l.setIfInBounds j true).getD k true = false →
          (∀ e ∈ ok.after, Region.binds md e = true → e.on ≠ i) → oi.apart ops ok = true := fun k ok hk hki hun hno => by
        refine hfree k ok hk hki ?_ hno
        by_cases hjk : j = k
        · subst hjk; exact hjun
        · rw [getD_set_ne true hjk] at hun; exact hun
      refine wpOp_mono (fun a' w' h3 => ih (l.setIfInBounds j true) a' w' hfree' (ready_mono hr (Ne.symm hji)) h3.1 ?_) h2
      rw [Array.setIfInBounds_comm _ _ hji]
      exact h3.2

theorem wpAnyP_only {i : Nat} {S : Array Bool → Act → World → Prop} {f : Nat} {l : Array Bool} {a : Act} {w : World} (hr : Region.ready md ops l = [i]) (hS : S l a w)
    (h : wpOp P ops (Nrm N) i (wpAnyP P md ops N S f (l.setIfInBounds i true)) a w) : wpAnyP P md ops N S (f + 1) l a w :=
  ⟨hS, fun h0 => (by rw [hr] at h0; cases h0), fun j hj => by
    rw [hr] at hj
    have : j = i := by simpa using hj
    subst this
    exact h⟩
end
end Go.Tt

/- A region that draws its order, walked in ONE order, third part: the plan, its check, what it gives ('wp_region_plan'). -/
namespace Go.Tt
set_option linter.unusedVariables false
set_option linter.unusedSimpArgs false
section
variable {P : Program} {ops : Array Oper} {N : Act → World → Prop}

def maskOf (tbl : List Nat) (o : Oper) : Nat := o.after.toList.foldl (fun s e => if Region.binds .any e then s ||| 2 ^ e.on ||| tbl.getD e.on 0 else s) 0
def tblOK (ops : Array Oper) (tbl : List Nat) : Bool := (List.range ops.size).all fun j => match ops[j]? with
  | some o => (tbl.getD j 0 == maskOf tbl o) && o.after.toList.all fun e => !Region.binds .any e || decide (e.on < j)
  | none => true

theorem maskOf_bit {tbl : List Nat} {k : Nat} : ∀ (es : List Edge) (s : Nat), (es.foldl (fun s e => if Region.binds .any e then s ||| 2 ^ e.on ||| tbl.getD e.on 0 else s) s).testBit k = true →
    s.testBit k = true ∨ ∃ e ∈ es, Region.binds .any e = true ∧ (e.on = k ∨ (tbl.getD e.on 0).testBit k = true)
  | [], s, h => .inl h
  | e :: es, s, h => by
    rw [List.foldl_cons] at h
    rcases maskOf_bit es _ h with h | ⟨e', he', hb⟩
    · split at h
      · rename_i hb
        rw [Nat.testBit_or, Nat.testBit_or, Bool.or_eq_true, Bool.or_eq_true] at h
        rcases h with (h | h) | h
        · exact .inl h
        · rw [Nat.testBit_two_pow] at h
          exact .inr ⟨e, List.mem_cons_self, hb, .inl (by simpa using h)⟩
        · exact .inr ⟨e, List.mem_cons_self, hb, .inr h⟩
      · exact .inl h
    · exact .inr ⟨e', List.mem_cons_of_mem _ he', hb⟩

theorem tbl_listed {tbl : List Nat} (ht : tblOK ops tbl = true) {l : Array Bool} (hc : Closed .any ops l) {k : Nat} : ∀ (j : Nat), (tbl.getD j 0).testBit k = true → l.getD j false = true → j < ops.size → l.getD k false = true := by
  intro j
  induction j using Nat.strongRecOn with
  | _ j ih =>
    intro hb hl hj
    have h1 := List.all_eq_true.1 ht j (List.mem_range.2 hj)
    have ho : ops[j]? = some ops[j] := Array.getElem?_eq_getElem hj
    simp only [ho, Bool.and_eq_true, beq_iff_eq] at h1
    rw [h1.1] at hb
    rcases maskOf_bit _ _ hb with h | ⟨e, he, hbd, hk⟩
    · simp at h
    · have hon := hc j _ ho hl e (by simpa using he) hbd
      have hlt := List.all_eq_true.1 h1.2 e he
      simp only [hbd, Bool.not_true, Bool.false_or, decide_eq_true_eq] at hlt
      rcases hk with rfl | hk
      · exact hon
      · exact ih e.on hlt hk hon (by omega)

/-- The reading k reads in this state what it read. -/
def Again (P : Program) (ops : Array Oper) (k : Nat) (a : Act) (w : World) : Prop :=
  ∀ o d, ops[k]? = some o → o.dst = some d → Region.wanted o (yielded ops a.tmps) = true → (execOp a.eval o).run P w = .ok (.value (a.tmps.getD d undef)) w

def Nev : Exit → Act → World → Prop := fun _ _ _ => False

def wpPl (P : Program) (ops : Array Oper) (N : Act → World → Prop) : List (Nat × List Nat) → Act → World → Prop
  | [], a, w => N a w
  | (i, L) :: r, a, w => match ops[i]? with
    | none => False
    | some o => if Region.wanted o (yielded ops a.tmps) then o.wp P a w (fun a' w' => (∀ k ∈ L, Again P ops k a' w') ∧ wpPl P ops N r a' w') Nev
      else (∀ k ∈ L, Again P ops k (a.put o.dst undef) w) ∧ wpPl P ops N r (a.put o.dst undef) w

/-- o writes nothing that the operation k looks at or writes. -/
def sepB (ops : Array Oper) (o : Oper) (k : Nat) : Bool := match ops[k]? with
  | none => true
  | some ok => match o.dst with
    | none => true
    | some d => !(ok.looksAt ops).contains d && ok.dst != some d
theorem sepB_spec {o ok : Oper} {k : Nat} (h : sepB ops o k = true) (hk : ops[k]? = some ok) : (∀ d, o.dst = some d → d ∉ ok.looksAt ops) ∧ (∀ d, o.dst = some d → ok.dst ≠ some d) := by
  simp only [sepB, hk] at h
  refine ⟨fun d hd => ?_, fun d hd => ?_⟩ <;> simp [hd] at h
  · exact h.1
  · exact h.2

def waits (ops : Array Oper) (i k : Nat) : Bool := ((Region.before ops).toList.getD i 0).testBit k

def planB (P : Program) (ops : Array Oper) (nt : Nat) : List (Nat × List Nat) → Array Bool → List Nat → Bool
  | [], l, _ => (Region.ready .any ops l).isEmpty
  | (i, L) :: r, l, pend => match ops[i]? with
    | none => false
    | some o =>
      if opCls P o.op = 0 then
        decide (Region.ready .any ops l = [i]) && (pend.filter fun k => !waits ops i k).all (fun k => L.contains k && sepB ops o k) && planB P ops nt r (l.setIfInBounds i true) (pend.filter fun k => !waits ops i k)
      else
        L.isEmpty && (Region.ready .any ops l).contains i && Region.free .any ops l i && (match o.dst with | some d => decide (d < nt) && !(o.looksAt ops).contains d | none => false) && pend.all (fun k => sepB ops o k) &&
          planB P ops nt r (l.setIfInBounds i true) (if opCls P o.op = 1 then i :: pend else pend)

def relB (P : Program) (ops : Array Oper) (k j : Nat) : Bool := match ops[j]? with
  | some o => opCls P o.op == 0 && waits ops j k
  | none => false

/-- What stays known of all that has been read. -/
def SL (P : Program) (ops : Array Oper) (pend : List Nat) (a0 : Act) (l : Array Bool) (a : Act) (w : World) : Prop :=
  ∀ k ∈ pend, ∀ o d, ops[k]? = some o → o.dst = some d → Pd P ops (relB P ops k) o (a0.tmps.getD d undef) l a w

theorem getD_put_ne {a : Act} {x : Option Tmp} {v : Value} {d : Nat} (h : x ≠ some d) : (a.put x v).tmps.getD d undef = a.tmps.getD d undef := by
  cases x with
  | none => rfl
  | some e =>
    have : e ≠ d := fun he => h (by rw [he])
    simp [Act.put, Array.getElem?_setIfInBounds_ne this]
theorem getD_put_eq {a : Act} {v : Value} {d : Nat} (h : d < a.tmps.size) : (a.put (some d) v).tmps.getD d undef = v := by
  simp [Act.put, h]
theorem size_put (a : Act) (x : Option Tmp) (v : Value) : (a.put x v).tmps.size = a.tmps.size := by
  cases x <;> simp [Act.put]

/-- The frame behind an operation is the old one but for its slot. -/
theorem wp_frame {o : Oper} {a : Act} {w : World} {K : Act → World → Prop} {Q : Exit → Act → World → Prop} (h : o.wp P a w K Q) : o.wp P a w (fun a' w' => K a' w' ∧ ∃ v, a'.tmps = (a.put o.dst v).tmps) Q := by
  unfold Oper.wp at *
  generalize (execOp a.eval o).run P w = r at *
  cases r with
  | ok n w' =>
    cases n <;> simp only [Oper.upon] at h ⊢
    case value u => exact ⟨h, u, rfl⟩
    case skip => exact ⟨h, undef, rfl⟩
    case defer d => exact ⟨h, undef, by cases o.dst <;> rfl⟩
    case enter f args =>
      refine Calls.mono h fun e w'' he => ?_
      cases e with
      | returned u => exact ⟨he, u, rfl⟩
      | panicked c => exact he
      | outgrown => exact he
    case row row args => exact Rows.mono h fun u w'' he => ⟨he, u, rfl⟩
  | halt x w' => cases x <;> simp only [Oper.upon] at h ⊢ <;> exact h
theorem wp_nev {o : Oper} {a : Act} {w : World} {K : Act → World → Prop} {Q Q' : Exit → Act → World → Prop} (hp : ∀ c a w, Q (.panic c) a w → Q' (.panic c) a w) (hl : LetsOut Q → LetsOut Q') (h : o.wp P a w K Q) : o.wp P a w K Q' := by
  unfold Oper.wp at *
  generalize (execOp a.eval o).run P w = r at *
  cases r with
  | ok n w' =>
    cases n <;> simp only [Oper.upon] at h ⊢ <;> try exact h
    case enter f args =>
      refine Calls.mono h fun e w'' he => ?_
      cases e with
      | returned u => exact he
      | panicked c => exact hp _ _ _ he
      | outgrown => exact hl he
  | halt x w' =>
    cases x <;> simp only [Oper.upon] at h ⊢ <;> first | exact h | exact hp _ _ _ h

theorem quiet_yields {o : Oper} (hq : opCls P o.op ≠ 0) {a : Act} {w : World} {K : Act → World → Prop} (h : o.wp P a w K Nev) :
    ∃ v, (execOp a.eval o).run P w = .ok (.value v) w ∧ K (a.put o.dst v) w := by
  unfold Oper.wp at h
  cases hr : (execOp a.eval o).run P w with
  | ok n w' =>
    obtain ⟨v, rfl⟩ := opCls_value hq hr
    have hw' : w' = w := by
      rcases Nat.lt_or_ge 1 (opCls P o.op) with h2 | h2
      · have h2' : opCls P o.op = 2 := by
          have : opCls P o.op ≤ 2 := by
            unfold opCls
            split <;> try omega
            · split
              · split
                · split <;> omega
                · omega
              · omega
            · split <;> omega
          omega
        exact (opCls_const h2' w _ _ hr).1
      · exact opCls_load (by omega) w _ _ hr
    subst hw'
    rw [hr] at h
    exact ⟨v, rfl, h⟩
  | halt x w' =>
    rw [hr] at h
    cases x <;> simp only [Oper.upon] at h <;> exact h.elim

theorem cls_le (P : Program) (op : Op) : opCls P op ≤ 2 := by
  unfold opCls
  split <;> try omega
  · split
    · split
      · split <;> omega
      · omega
    · omega
  · split <;> omega

theorem sl_put {pend : List Nat} (hsel : Region.noSelect ops = true) {o : Oper} (hsep : ∀ k ∈ pend, sepB ops o k = true) {v : Value} {a0 : Act} {l : Array Bool} {a : Act} {w : World} (h : SL P ops pend a0 l a w) {l' : Array Bool} (hl : Sup l l') :
    SL P ops pend (a0.put o.dst v) l' (a.put o.dst v) w := by
  intro k hk ok d hok hd
  obtain ⟨s1, s2⟩ := sepB_spec (hsep k hk) hok
  rw [getD_put_ne (fun e => s2 d e hd)]
  rcases h k hk ok d hok hd with ⟨j, hj, hj2⟩ | hy
  · exact .inl ⟨j, hj, hl j hj2⟩
  · exact .inr ((yld_put (Region.noSelect_spec hsel k ok · · hok) s1).2 hy)

theorem plan_sound (hsel : Region.noSelect ops = true) (ht : tblOK ops (Region.before ops).toList = true) {nt : Nat} :
    ∀ (pl : List (Nat × List Nat)) (l : Array Bool) (pend : List Nat) (a : Act) (w : World), planB P ops nt pl l pend = true → nt ≤ a.tmps.size → Closed .any ops l → SL P ops pend a l a w →
      wpPl P ops N pl a w → wpAnyP P .any ops N (SL P ops pend a) pl.length l a w
  | [], l, pend, a, w, hB, _, _, hS, h => ⟨hS, by simpa [planB] using hB, h⟩
  | (i, L) :: r, l, pend, a, w, hB, hn, hc, hS, h => by
    cases ho : ops[i]? with
    | none => simp [planB, ho] at hB
    | some o =>
      simp only [planB, ho] at hB
      simp only [wpPl, ho] at h
      by_cases hcl : opCls P o.op = 0
      · rw [if_pos hcl] at hB
        simp only [Bool.and_eq_true, decide_eq_true_eq] at hB
        obtain ⟨⟨hr, hall⟩, hB'⟩ := hB
        have hri : i ∈ Region.ready .any ops l := by rw [hr]; simp
        have hil : (l.setIfInBounds i true).getD i false = true := by
          have hu := (mem_ready.1 hri).1
          have hlt : i < l.size := by
            rcases Nat.lt_or_ge i l.size with h' | h'
            · exact h'
            · simp [Array.getElem?_eq_none h'] at hu
          simp [hlt]
        have next : ∀ a' w', (∃ v, a'.tmps = (a.put o.dst v).tmps) → (∀ k ∈ L, Again P ops k a' w') → wpPl P ops N r a' w' → wpAnyP P .any ops N (SL P ops pend a) r.length (l.setIfInBounds i true) a' w' := by
          rintro a' w' ⟨v, hv⟩ hag hpl
          have sep : ∀ k ∈ (pend.filter fun k => !waits ops i k), L.contains k = true ∧ sepB ops o k = true := fun k hk => by
            have := List.all_eq_true.1 hall k hk
            simpa using this
          have same : ∀ k ∈ (pend.filter fun k => !waits ops i k), ∀ ok d, ops[k]? = some ok → ok.dst = some d → a'.tmps.getD d undef = a.tmps.getD d undef := fun k hk ok d hok hd => by
            rw [hv, getD_put_ne (fun e => (sepB_spec (sep k hk).2 hok).2 d e hd)]
          have hS' : SL P ops (pend.filter fun k => !waits ops i k) a' (l.setIfInBounds i true) a' w' := by
            intro k hk ok d hok hd
            rw [same k hk ok d hok hd]
            have hkp : k ∈ pend := (List.mem_filter.1 hk).1
            rcases hS k hkp ok d hok hd with ⟨j, hj, hj2⟩ | hy
            · exact .inl ⟨j, hj, getD_set_true hj2⟩
            · right
              have hw : Region.wanted ok (yielded ops a'.tmps) = Region.wanted ok (yielded ops a.tmps) := by
                rw [hv, wanted_put ok a o.dst v (sepB_spec (sep k hk).2 hok).1]
              rcases hy with ⟨hy, _⟩ | ⟨hy, hu⟩
              · refine .inl ⟨by rw [hw, hy], ?_⟩
                rw [← same k hk ok d hok hd]
                exact hag k (by simpa using (sep k hk).1) ok d hok hd (by rw [hw, hy])
              · exact .inr ⟨by rw [hw, hy], hu⟩
          refine wpAnyP_mono _ _ _ _ (fun l' a'' w'' hsup hs => ?_) (plan_sound hsel ht r _ _ a' w' hB' (by rw [hv, size_put]; exact hn) (closed_set hc hri) hS' hpl)
          intro k hk ok d hok hd
          by_cases hwt : waits ops i k = true
          · exact .inl ⟨i, by simp [relB, ho, hcl, hwt], hsup i hil⟩
          · have hk' : k ∈ pend.filter fun k => !waits ops i k := List.mem_filter.2 ⟨hk, by simp [hwt]⟩
            rw [← same k hk' ok d hok hd]
            exact hs k hk' ok d hok hd
        refine wpAnyP_only hr hS ?_
        unfold wpOp
        simp only [ho]
        split at h
        · rename_i hw
          rw [if_pos hw]
          have h5 := Oper.wp_mono (K' := wpAnyP P .any ops N (SL P ops pend a) r.length (l.setIfInBounds i true)) (fun a' w' h4 => next a' w' h4.2 h4.1.1 h4.1.2) (wp_frame h)
          exact .inl (wp_nev (Q := Nev) (fun _ _ _ h => h.elim) (fun ⟨_, _, h⟩ => h.elim) h5)
        · rename_i hw
          rw [if_neg hw]
          exact next _ _ ⟨undef, rfl⟩ h.1 h.2
      · rw [if_neg hcl] at hB
        simp only [Bool.and_eq_true] at hB
        obtain ⟨⟨⟨⟨⟨_, hr⟩, hf⟩, hd⟩, hsep⟩, hB'⟩ := hB
        have hr' : i ∈ Region.ready .any ops l := by simpa using hr
        have hsep' : ∀ k ∈ pend, sepB ops o k = true := List.all_eq_true.1 hsep
        cases hdst : o.dst with
        | none => simp [hdst] at hd
        | some d =>
          simp only [hdst, Bool.and_eq_true, decide_eq_true_eq, Bool.not_eq_true'] at hd
          have hself : ∀ e, o.dst = some e → e ∉ o.looksAt ops := fun e he => by
            rw [hdst] at he
            obtain rfl := Option.some.inj he
            have := hd.2
            simpa using this
          obtain ⟨v, hy, hpl⟩ : ∃ v, Yld P ops o v a w ∧ wpPl P ops N r (a.put o.dst v) w := by
            split at h
            · rename_i hw
              obtain ⟨v, h1, h2⟩ := quiet_yields hcl h
              exact ⟨v, .inl ⟨hw, h1⟩, h2.2⟩
            · rename_i hw
              exact ⟨undef, .inr ⟨by simpa using hw, rfl⟩, h.2⟩
          have sel := Region.noSelect_spec hsel
          have hv : (a.put o.dst v).tmps.getD d undef = v := by rw [hdst]; exact getD_put_eq (Nat.lt_of_lt_of_le hd.1 hn)
          have hins : ∀ l' a' w', SL P ops pend a (l'.setIfInBounds i true) (a'.put o.dst v) w' → SL P ops pend a l' a' w' := by
            intro l' a' w' hs k hk ok e hok he
            rcases hs k hk ok e hok he with ⟨j, hj, hj2⟩ | hy
            · refine .inl ⟨j, hj, ?_⟩
              have hne : i ≠ j := fun e => by
                subst e
                simp [relB, ho, hcl] at hj
              rwa [getD_set_ne false hne] at hj2
            · exact .inr ((yld_put (sel k ok · · hok) (sepB_spec (hsep' k hk) hok).1).1 hy)
          have hS0 : SL P ops pend (a.put o.dst v) (l.setIfInBounds i true) (a.put o.dst v) w := sl_put hsel hsep' hS (sup_set l i)
          have back : ∀ {pend' : List Nat} {l' a' w'}, (∀ k ∈ pend, k ∈ pend') → SL P ops pend' (a.put o.dst v) l' a' w' → SL P ops pend a l' a' w' := by
            intro pend' l' a' w' hsub hs k hk ok e hok he
            have := hs k (hsub k hk) ok e hok he
            rwa [getD_put_ne (fun x => (sepB_spec (hsep' k hk) hok).2 e x he)] at this
          by_cases h1 : opCls P o.op = 1
          · rw [if_pos h1] at hB'
            have hS1 : SL P ops (i :: pend) (a.put o.dst v) (l.setIfInBounds i true) (a.put o.dst v) w := by
              intro k hk ok e hok he
              rcases List.mem_cons.1 hk with rfl | hk
              · have : ok = o := Option.some.inj (hok.symm.trans ho)
                subst this
                rw [hdst] at he
                obtain rfl := Option.some.inj he
                rw [hv]
                exact .inr ((yld_put (sel k ok · · hok) hself).2 hy)
              · exact hS0 k hk ok e hok he
            refine wpAnyP_read ho hsel (rel := relB P ops i) (v := v) (by simp [relB, ho, hcl]) (fun l' hc' j hj hl => ?_) hself hins r.length l a w hc (Region.free_spec ho hf) hr'
              (wpAnyP_mono _ _ _ _ (fun l' a' w' _ hs => ⟨back (fun k hk => List.mem_cons_of_mem _ hk) hs, ?_⟩) (plan_sound hsel ht r _ _ _ w hB' (by rw [size_put]; exact hn) (closed_set hc hr') hS1 hpl))
            · cases hoj : ops[j]? with
              | none => simp [relB, hoj] at hj
              | some oj =>
                simp only [relB, hoj, Bool.and_eq_true] at hj
                exact tbl_listed ht hc' j hj.2 hl (Array.getElem?_eq_some_iff.1 hoj).1
            · have := hs i List.mem_cons_self o d ho hdst
              rwa [hv] at this
          · rw [if_neg h1] at hB'
            have h2 : opCls P o.op = 2 := by have := cls_le P o.op; omega
            have hyy : Yields P ops o v a := by
              rcases hy with ⟨hw, hrun⟩ | hy
              · exact .inl ⟨hw, (opCls_const h2 w _ _ hrun).2⟩
              · exact .inr hy
            exact wpAnyP_const ho hsel hins r.length l a w (Region.free_spec ho hf) hr' hyy
              (wpAnyP_mono _ _ _ _ (fun l' a' w' _ hs => back (fun k hk => hk) hs) (plan_sound hsel ht r _ _ _ w hB' (by rw [size_put]; exact hn) (closed_set hc hr') hS0 hpl))

/-! ### For the walk: lists of operations, with the readings that are asked again behind the last of each -/

def wpSegs (P : Program) (ops : Array Oper) (N : Act → World → Prop) : List (List Nat × List Nat) → Act → World → Prop
  | [], a, w => N a w
  | (is, []) :: r, a, w => wpList P ops (Exit.then (wpSegs P ops N r) fun _ _ _ => False) (is.map fun i => ops.toList.getD i default) a w
  | (is, k :: L) :: r, a, w => wpList P ops (Exit.then (fun a' w' => (∀ j ∈ k :: L, Again P ops j a' w') ∧ wpSegs P ops N r a' w') fun _ _ _ => False) (is.map fun i => ops.toList.getD i default) a w

def segItems : List Nat → List Nat → List (Nat × List Nat)
  | [], _ => []
  | [i], L => [(i, L)]
  | i :: is, L => (i, []) :: segItems is L
def planOf (s : List (List Nat × List Nat)) : List (Nat × List Nat) := s.flatMap fun p => segItems p.1 p.2

theorem wpPl_app {r r' : List (Nat × List Nat)} (hr : ∀ a w, wpPl P ops N r a w → wpPl P ops N r' a w) : ∀ (p : List (Nat × List Nat)) (a : Act) (w : World), wpPl P ops N (p ++ r) a w → wpPl P ops N (p ++ r') a w
  | [], a, w, h => hr a w h
  | (i, L) :: p, a, w, h => by
    simp only [List.cons_append, wpPl] at h ⊢
    split
    · rename_i ho; simp [ho] at h
    · rename_i o ho
      simp only [ho] at h
      split
      · rename_i hw
        rw [if_pos hw] at h
        exact Oper.wp_mono (fun a' w' ⟨h1, h2⟩ => ⟨h1, wpPl_app hr p a' w' h2⟩) h
      · rename_i hw
        rw [if_neg hw] at h
        exact ⟨h.1, wpPl_app hr p _ _ h.2⟩

theorem getD_of_some {ops : Array Oper} {i : Nat} {o : Oper} (h : ops[i]? = some o) : ops.toList.getD i default = o := by
  rw [List.getD_eq_getElem?_getD, Array.getElem?_toList, h]
  rfl
theorem seg_sound {L : List Nat} {r : List (Nat × List Nat)} {R : Act → World → Prop} (hR : ∀ a w, R a w → wpPl P ops N r a w) : ∀ (is : List Nat) (a : Act) (w : World), is ≠ [] → (∀ i ∈ is, (ops[i]?).isSome = true) →
    wpList P ops (Exit.then (fun a' w' => (∀ k ∈ L, Again P ops k a' w') ∧ R a' w') fun _ _ _ => False) (is.map fun i => ops.toList.getD i default) a w → wpPl P ops N (segItems is L ++ r) a w
  | [], _, _, h0, _, _ => absurd rfl h0
  | [i], a, w, _, hall, h => by
    obtain ⟨o, ho⟩ := Option.isSome_iff_exists.1 (hall i (by simp))
    rw [List.map_cons, getD_of_some ho] at h
    simp only [List.map_nil, wpList] at h
    simp only [segItems, List.cons_append, List.nil_append, wpPl, ho]
    split
    · rename_i hw
      rw [if_pos hw] at h
      rcases h with h | ⟨_, _, _, h⟩
      · exact wp_nev (fun _ _ _ h => h) (fun ⟨_, _, h⟩ => h.elim) (Oper.wp_mono (fun a' w' ⟨h1, h2⟩ => ⟨h1, hR _ _ h2⟩) h)
      · exact h.elim
    · rename_i hw
      rw [if_neg hw] at h
      exact ⟨h.1, hR _ _ h.2⟩
  | i :: j :: is, a, w, _, hall, h => by
    obtain ⟨o, ho⟩ := Option.isSome_iff_exists.1 (hall i (by simp))
    rw [List.map_cons, getD_of_some ho] at h
    simp only [wpList] at h
    simp only [segItems, List.cons_append, wpPl, ho]
    have ih := fun a w => seg_sound (L := L) (r := r) (R := R) hR (j :: is) a w (by simp) (fun x hx => hall x (List.mem_cons_of_mem _ hx))
    split
    · rename_i hw
      rw [if_pos hw] at h
      rcases h with h | ⟨_, _, _, h⟩
      · exact wp_nev (fun _ _ _ h => h) (fun ⟨_, _, h⟩ => h.elim) (Oper.wp_mono (fun a' w' h2 => ⟨fun _ hk => (by cases hk), ih _ _ h2⟩) h)
      · exact h.elim
    · rename_i hw
      rw [if_neg hw] at h
      exact ⟨fun _ hk => (by cases hk), ih _ _ h⟩

theorem wpList_then {R R' : Act → World → Prop} (hR : ∀ a w, R a w → R' a w) : ∀ (l : List Oper) (a : Act) (w : World), wpList P ops (Exit.then R fun _ _ _ => False) l a w → wpList P ops (Exit.then R' fun _ _ _ => False) l a w
  | [], a, w, h => hR a w h
  | o :: l, a, w, h => by
    simp only [wpList] at h ⊢
    split
    · rename_i hw
      rw [if_pos hw] at h
      rcases h with h | ⟨_, _, _, h⟩
      · exact .inl (wp_nev (fun _ _ _ h => h) (fun ⟨_, _, h⟩ => h.elim) (Oper.wp_mono (wpList_then hR l) h))
      · exact h.elim
    · rename_i hw
      rw [if_neg hw] at h
      exact wpList_then hR l _ _ h

def segsOK (ops : Array Oper) (s : List (List Nat × List Nat)) : Bool := s.all fun p => !p.1.isEmpty && p.1.all fun i => (ops[i]?).isSome
theorem segs_sound : ∀ (s : List (List Nat × List Nat)) (a : Act) (w : World), segsOK ops s = true → wpSegs P ops N s a w → wpPl P ops N (planOf s) a w
  | [], _, _, _, h => h
  | (is, L) :: r, a, w, hk, h => by
    simp only [segsOK, List.all_cons, Bool.and_eq_true] at hk
    obtain ⟨⟨hne, hall⟩, hk'⟩ := hk
    rw [planOf, List.flatMap_cons]
    refine seg_sound (R := wpSegs P ops N r) (fun a w h => segs_sound r a w hk' h) is a w (by intro e; simp [e] at hne) (fun i hi => List.all_eq_true.1 hall i hi) ?_
    cases L with
    | nil => exact wpList_then (fun a w h => ⟨fun _ hk => (by cases hk), h⟩) _ a w h
    | cons k L => exact h

def regionB (P : Program) (ops : Array Oper) (nt : Nat) (s : List (List Nat × List Nat)) : Bool :=
  Region.noSelect ops && tblOK ops (Region.before ops).toList && segsOK ops s && planB P ops nt (planOf s) (Array.replicate ops.size false) [] && decide ((planOf s).length = ops.size)

/-- THE LAW: a region that draws its order, by one plan. -/
theorem wp_region_plan {id : Nat} {Q : Exit → Act → World → Prop} {a : Act} {w : World} {ops : List Oper} (s : List (List Nat × List Nat)) (nt : Nat) (hm : P.follows .mixedOrders = true) (hB : regionB P ops.toArray nt s = true) (hn : nt ≤ a.tmps.size)
    (h : ∀ N : Act → World → Prop, (∀ a w, Q .normal a w → N a w) → wpSegs P ops.toArray N s a w.drew) : (Code.region id ops.toArray true).wp P Q a w := by
  simp only [regionB, Bool.and_eq_true, decide_eq_true_eq] at hB
  obtain ⟨⟨⟨⟨hsel, ht⟩, hk⟩, hp⟩, hlen⟩ := hB
  have h0 := segs_sound s a w.drew hk (h (fun a w => Q .normal a w) fun _ _ h => h)
  have hc : Closed .any ops.toArray (Array.replicate ops.toArray.size false) := fun j oj _ hl => by
    have : ∀ n, (Array.replicate n false).getD j false = false := fun n => by
      rcases Nat.lt_or_ge j n with h | h
      · simp [h]
      · simp [h]
    rw [this] at hl
    cases hl
  have h1 := wpAnyP_forget _ _ _ _ (plan_sound hsel ht (planOf s) _ [] a w.drew hp hn hc (fun k hk => by cases hk) h0)
  rw [hlen] at h1
  exact wp_mono (wp_region_any hm h1) fun e a w he => by cases e <;> first | exact he | exact he.elim

theorem again_of {ops : Array Oper} {k : Nat} {o : Oper} {d : Nat} {a : Act} {w : World} (hk : ops[k]? = some o) (hd : o.dst = some d) (h : (execOp a.eval o).run P w = .ok (.value (a.tmps.getD d undef)) w) : Again P ops k a w := by
  intro o' d' hk' hd' _
  rw [hk] at hk'
  obtain rfl := Option.some.inj hk'
  rw [hd] at hd'
  obtain rfl := Option.some.inj hd'
  exact h
theorem again_nil {p : Nat → Prop} : ∀ k ∈ ([] : List Nat), p k := fun _ h => by cases h
theorem again_cons {p : Nat → Prop} {k : Nat} {L : List Nat} (h : p k) (h' : ∀ k ∈ L, p k) : ∀ j ∈ k :: L, p j := fun j hj => by
  rcases List.mem_cons.1 hj with rfl | hj
  · exact h
  · exact h' j hj
end
end Go.Tt

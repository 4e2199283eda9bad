/- A region that draws its order, fifth part: forks, and differences of numbers taken as they stand. No program in sight. -/
import Derived.Test.YtheejjifcpjdbaaPlan4
namespace Go.Tt
set_option linter.unusedVariables false
set_option linter.unusedSimpArgs false
section
variable {P : Program} {ops : Array Oper} {N : Act → World → Prop}
inductive PT5 where
  | nil
  | one (i : Nat) (L : List Nat) (r : PT5)
  | two (i : Nat) (L : List Nat) (r : PT5) (j : Nat) (M : List Nat) (s : PT5)
  | sub (i : Nat) (r : PT5)
/-- A difference of two numbers. -/
def wpSub (ops : Array Oper) (i : Nat) (K : Act → World → Prop) (a : Act) (w : World) : Prop := match ops[i]? with
  | some { dst, op := .binOp .sub t l r t', type, pos, after, guard := none } => ∃ k x y, a.eval l = .int k x ∧ a.eval r = .int k y ∧ K (a.put dst (.int k (k.wrap (x - y)))) w
  | _ => False
def isSub (o : Oper) : Bool := match o.op with | .binOp .sub _ _ _ _ => o.guard.isNone | _ => false
def wpT5 (P : Program) (ops : Array Oper) (N : Act → World → Prop) : PT5 → Act → World → Prop
  | .nil => N
  | .one i L r => wpStep P ops i L (wpT5 P ops N r)
  | .two i L r j M s => fun a w => wpStep P ops i L (wpT5 P ops N r) a w ∧ wpStep P ops j M (wpT5 P ops N s) a w
  | .sub i r => wpSub ops i (wpT5 P ops N r)
def planT5 (P : Program) (ops : Array Oper) (nt : Nat) : PT5 → Nat → Array Bool → List Nat → Bool
  | .nil, f, l, _ => f == 0 && (Region.ready .any ops l).isEmpty
  | .one i L r, f, l, pend => match f with
    | 0 => false
    | f + 1 => match ops[i]? with
      | none => false
      | some o =>
        if opCls P o.op = 0 then
          decide (Region.ready .any ops l = [i]) && wrB ops o i L pend && planT5 P ops nt r f (l.setIfInBounds i true) (pend.filter fun k => !waits ops i k)
        else
          L.isEmpty && (Region.ready .any ops l).contains i && Region.free .any ops l i && (match o.dst with | some d => decide (d < nt) && !(o.looksAt ops).contains d | none => false) && pend.all (fun k => sepB ops o k) &&
            planT5 P ops nt r f (l.setIfInBounds i true) (if opCls P o.op = 1 then i :: pend else pend)
  | .two i L r j M s, f, l, pend => match f with
    | 0 => false
    | f + 1 => match ops[i]?, ops[j]? with
      | some oi, some oj => opCls P oi.op == 0 && opCls P oj.op == 0 && decide (Region.ready .any ops l = [i, j]) && wrB ops oi i L pend && wrB ops oj j M pend &&
          planT5 P ops nt r f (l.setIfInBounds i true) (pend.filter fun k => !waits ops i k) && planT5 P ops nt s f (l.setIfInBounds j true) (pend.filter fun k => !waits ops j k)
      | _, _ => false
  | .sub i r, f, l, pend => match f with
    | 0 => false
    | f + 1 => match ops[i]? with
      | none => false
      | some o => isSub o && pend.all (fun k => !waits ops i k) && (Region.ready .any ops l).contains i && Region.free .any ops l i && (match o.dst with | some d => decide (d < nt) && !(o.looksAt ops).contains d | none => false) && pend.all (fun k => sepB ops o k) &&
            planT5 P ops nt r f (l.setIfInBounds i true) pend
theorem run_sub (o : Oper) (ρ : Operand → Value) {t t' : TypeId} {l r : Operand} (ho : o.op = .binOp .sub t l r t') {k : IntKind} {x y : Int} (hl : ρ l = .int k x) (hr : ρ r = .int k y) (w : World) : (execOp ρ o).run P w = .ok (.value (.int k (k.wrap (x - y)))) w := by
  simp [execOp, ho, hl, hr, binOp, Op.intArith, eqGuard]
theorem planT5_sound (hsel : Region.noSelect ops = true) (ht : tblOK ops (Region.before ops).toList = true) {nt : Nat} :
    ∀ (pl : PT5) (f : Nat) (l : Array Bool) (pend : List Nat) (a : Act) (w : World), planT5 P ops nt pl f l pend = true → nt ≤ a.tmps.size → Closed .any ops l → SL P ops pend a l a w →
      wpT5 P ops N pl a w → wpAnyP P .any ops N (SL P ops pend a) f l a w
  | .nil, f, l, pend, a, w, hB, _, _, hS, h => by
    simp only [planT5, Bool.and_eq_true, beq_iff_eq] at hB
    obtain ⟨rfl, hB⟩ := hB
    exact ⟨hS, by simpa using hB, h⟩
  | .one i L r, 0, l, pend, a, w, hB, hn, hc, hS, h => by simp [planT5] at hB
  | .two i L r j M s, 0, l, pend, a, w, hB, hn, hc, hS, h => by simp [planT5] at hB
  | .sub i r, 0, l, pend, a, w, hB, hn, hc, hS, h => by simp [planT5] at hB
  | .sub i r, f + 1, l, pend, a, w, hB, hn, hc, hS, h => by
    cases ho : ops[i]? with
    | none => simp [planT5, ho] at hB
    | some o =>
      simp only [planT5, ho, Bool.and_eq_true] at hB
      obtain ⟨⟨⟨⟨⟨⟨hsub, hwt⟩, hr⟩, hf⟩, hd⟩, hsep⟩, hB'⟩ := hB
      have hr' : i ∈ Region.ready .any ops l := by simpa using hr
      have hsep' : ∀ k ∈ pend, sepB ops o k = true := List.all_eq_true.1 hsep
      have hnw : ∀ k ∈ pend, waits ops i k = false := fun k hk => by simpa using List.all_eq_true.1 hwt k hk
      have sel := Region.noSelect_spec hsel
      obtain ⟨v, hyy, hpl⟩ : ∃ v, Yields P ops o v a ∧ wpT5 P ops N r (a.put o.dst v) w := by
        simp only [wpT5, wpSub, ho] at h
        split at h
        · rename_i heq
          obtain rfl := Option.some.inj heq
          obtain ⟨k, x, y, h1, h2, h3⟩ := h
          exact ⟨_, .inl ⟨by simp [Region.wanted], fun w => run_sub _ a.eval rfl h1 h2 w⟩, h3⟩
        · exact h.elim
      cases hdst : o.dst with
      | none => simp [hdst] at hd
      | some d =>
        have hins : ∀ l' a' w', SL P ops pend a (l'.setIfInBounds i true) (a'.put o.dst v) w' → SL P ops pend a l' a' w' := by
          intro l' a' w' hs k hk ok e hok he
          rcases hs k hk ok e hok he with ⟨j, hj, hj2⟩ | hy
          · refine .inl ⟨j, hj, ?_⟩
            have hne : i ≠ j := fun e => by
              subst e
              simp [relB, ho, hnw k hk] at hj
            rwa [getD_set_ne false hne] at hj2
          · exact .inr ((yld_put (sel k ok · · hok) (sepB_spec (hsep' k hk) hok).1).1 hy)
        have hS0 : SL P ops pend (a.put o.dst v) (l.setIfInBounds i true) (a.put o.dst v) w := sl_put hsel hsep' hS (sup_set l i)
        have back : ∀ {l' a' w'}, SL P ops pend (a.put o.dst v) l' a' w' → SL P ops pend a l' a' w' := by
          intro l' a' w' hs k hk ok e hok he
          have := hs k hk ok e hok he
          rwa [getD_put_ne (fun x => (sepB_spec (hsep' k hk) hok).2 e x he)] at this
        exact wpAnyP_const ho hsel hins f l a w (Region.free_spec ho hf) hr' hyy
          (wpAnyP_mono _ _ _ _ (fun l' a' w' _ hs => back hs) (planT5_sound hsel ht r f _ _ _ w hB' (by rw [size_put]; exact hn) (closed_set hc hr') hS0 hpl))
  | .two i L r j M s, f + 1, l, pend, a, w, hB, hn, hc, hS, h => by
    simp only [planT5] at hB
    cases hoi : ops[i]? with
    | none => simp [hoi] at hB
    | some oi =>
      cases hoj : ops[j]? with
      | none => simp [hoi, hoj] at hB
      | some oj =>
        simp only [hoi, hoj, Bool.and_eq_true, beq_iff_eq, decide_eq_true_eq] at hB
        obtain ⟨⟨⟨⟨⟨⟨c1, c2⟩, hr⟩, w1⟩, w2⟩, b1⟩, b2⟩ := hB
        have ri : i ∈ Region.ready .any ops l := by rw [hr]; simp
        have rj : j ∈ Region.ready .any ops l := by rw [hr]; simp
        exact wpAnyP_two hr hS (writer_ok ri hoi c1 w1 hS (fun a' w' hz hS' hK => planT5_sound hsel ht r f _ _ a' w' b1 (by rw [hz]; exact hn) (closed_set hc ri) hS' hK) h.1)
          (writer_ok rj hoj c2 w2 hS (fun a' w' hz hS' hK => planT5_sound hsel ht s f _ _ a' w' b2 (by rw [hz]; exact hn) (closed_set hc rj) hS' hK) h.2)
  | .one i L r, f + 1, l, pend, a, w, hB, hn, hc, hS, h => by
    cases ho : ops[i]? with
    | none => simp [planT5, ho] at hB
    | some o =>
      simp only [planT5, ho] at hB
      by_cases hcl : opCls P o.op = 0
      · rw [if_pos hcl] at hB
        simp only [Bool.and_eq_true, decide_eq_true_eq] at hB
        obtain ⟨⟨hr, hall⟩, hB'⟩ := hB
        have hri : i ∈ Region.ready .any ops l := by rw [hr]; simp
        exact wpAnyP_only hr hS (writer_ok hri ho hcl hall hS (fun a' w' hz hS' hK => planT5_sound hsel ht r f _ _ a' w' hB' (by rw [hz]; exact hn) (closed_set hc hri) hS' hK) h)
      · rw [if_neg hcl] at hB
        simp only [wpT5, wpStep, ho] at h
        simp only [Bool.and_eq_true] at hB
        obtain ⟨⟨⟨⟨⟨_, hr⟩, hf⟩, hd⟩, hsep⟩, hB'⟩ := hB
        have hr' : i ∈ Region.ready .any ops l := by simpa using hr
        have hsep' : ∀ k ∈ pend, sepB ops o k = true := List.all_eq_true.1 hsep
        cases hdst : o.dst with
        | none => simp [hdst] at hd
        | some d =>
          simp only [hdst, Bool.and_eq_true, decide_eq_true_eq, Bool.not_eq_true'] at hd
          have hself : ∀ e, o.dst = some e → e ∉ o.looksAt ops := fun e he => by
            rw [hdst] at he
            obtain rfl := Option.some.inj he
            have := hd.2
            simpa using this
          obtain ⟨v, hy, hpl⟩ : ∃ v, Yld P ops o v a w ∧ wpT5 P ops N r (a.put o.dst v) w := by
            split at h
            · rename_i hw
              obtain ⟨v, h1, h2⟩ := quiet_yields hcl h
              exact ⟨v, .inl ⟨hw, h1⟩, h2.2⟩
            · rename_i hw
              exact ⟨undef, .inr ⟨by simpa using hw, rfl⟩, h.2⟩
          have sel := Region.noSelect_spec hsel
          have hv : (a.put o.dst v).tmps.getD d undef = v := by rw [hdst]; exact getD_put_eq (Nat.lt_of_lt_of_le hd.1 hn)
          have hins : ∀ l' a' w', SL P ops pend a (l'.setIfInBounds i true) (a'.put o.dst v) w' → SL P ops pend a l' a' w' := by
            intro l' a' w' hs k hk ok e hok he
            rcases hs k hk ok e hok he with ⟨j, hj, hj2⟩ | hy
            · refine .inl ⟨j, hj, ?_⟩
              have hne : i ≠ j := fun e => by
                subst e
                simp [relB, ho, hcl] at hj
              rwa [getD_set_ne false hne] at hj2
            · exact .inr ((yld_put (sel k ok · · hok) (sepB_spec (hsep' k hk) hok).1).1 hy)
          have hS0 : SL P ops pend (a.put o.dst v) (l.setIfInBounds i true) (a.put o.dst v) w := sl_put hsel hsep' hS (sup_set l i)
          have back : ∀ {pend' : List Nat} {l' a' w'}, (∀ k ∈ pend, k ∈ pend') → SL P ops pend' (a.put o.dst v) l' a' w' → SL P ops pend a l' a' w' := by
            intro pend' l' a' w' hsub hs k hk ok e hok he
            have := hs k (hsub k hk) ok e hok he
            rwa [getD_put_ne (fun x => (sepB_spec (hsep' k hk) hok).2 e x he)] at this
          by_cases h1 : opCls P o.op = 1
          · rw [if_pos h1] at hB'
            have hS1 : SL P ops (i :: pend) (a.put o.dst v) (l.setIfInBounds i true) (a.put o.dst v) w := by
              intro k hk ok e hok he
              rcases List.mem_cons.1 hk with rfl | hk
              · have : ok = o := Option.some.inj (hok.symm.trans ho)
                subst this
                rw [hdst] at he
                obtain rfl := Option.some.inj he
                rw [hv]
                exact .inr ((yld_put (sel k ok · · hok) hself).2 hy)
              · exact hS0 k hk ok e hok he
            refine wpAnyP_read ho hsel (rel := relB P ops i) (v := v) (by simp [relB, ho, hcl]) (fun l' hc' j hj hl => ?_) hself hins f l a w hc (Region.free_spec ho hf) hr'
              (wpAnyP_mono _ _ _ _ (fun l' a' w' _ hs => ⟨back (fun k hk => List.mem_cons_of_mem _ hk) hs, ?_⟩) (planT5_sound hsel ht r f _ _ _ w hB' (by rw [size_put]; exact hn) (closed_set hc hr') hS1 hpl))
            · cases hoj : ops[j]? with
              | none => simp [relB, hoj] at hj
              | some oj =>
                simp only [relB, hoj, Bool.and_eq_true] at hj
                exact tbl_listed ht hc' j hj.2 hl (Array.getElem?_eq_some_iff.1 hoj).1
            · have := hs i List.mem_cons_self o d ho hdst
              rwa [hv] at this
          · rw [if_neg h1] at hB'
            have h2 : opCls P o.op = 2 := by have := cls_le P o.op; omega
            have hyy : Yields P ops o v a := by
              rcases hy with ⟨hw, hrun⟩ | hy
              · exact .inl ⟨hw, (opCls_const h2 w _ _ hrun).2⟩
              · exact .inr hy
            exact wpAnyP_const ho hsel hins f l a w (Region.free_spec ho hf) hr' hyy
              (wpAnyP_mono _ _ _ _ (fun l' a' w' _ hs => back (fun k hk => hk) hs) (planT5_sound hsel ht r f _ _ _ w hB' (by rw [size_put]; exact hn) (closed_set hc hr') hS0 hpl))

/-! ### For the walk -/
inductive ST5 where
  | nil
  | seg (is : List Nat) (L : List Nat) (r : ST5)
  | fork (i : Nat) (L : List Nat) (r : ST5) (j : Nat) (M : List Nat) (s : ST5)
  | sub (i : Nat) (r : ST5)
def wpST5 (P : Program) (ops : Array Oper) (N : Act → World → Prop) : ST5 → Act → World → Prop
  | .nil => N
  | .seg is L r => fun a w => wpSg P ops (wpST5 P ops N r) is a w L
  | .fork i L r j M s => fun a w => wpSg P ops (wpST5 P ops N r) [i] a w L ∧ wpSg P ops (wpST5 P ops N s) [j] a w M
  | .sub i r => wpSub ops i (wpST5 P ops N r)
def segT5 : List Nat → List Nat → PT5 → PT5
  | [], _, r => r
  | [i], L, r => .one i L r
  | i :: is, L, r => .one i [] (segT5 is L r)
def planS5 : ST5 → PT5
  | .nil => .nil
  | .seg is L r => segT5 is L (planS5 r)
  | .fork i L r j M s => .two i L (planS5 r) j M (planS5 s)
  | .sub i r => .sub i (planS5 r)
theorem segT5_sound {L : List Nat} {r : PT5} {R : Act → World → Prop} (hR : ∀ a w, R a w → wpT5 P ops N r a w) : ∀ (is : List Nat) (a : Act) (w : World), is ≠ [] → (∀ i ∈ is, (ops[i]?).isSome = true) →
    wpList P ops (Exit.then (fun a' w' => (∀ k ∈ L, Again P ops k a' w') ∧ R a' w') fun _ _ _ => False) (is.map fun i => ops.toList.getD i default) a w → wpT5 P ops N (segT5 is L r) a w
  | [], _, _, h0, _, _ => absurd rfl h0
  | [i], a, w, _, hall, h => step_sound hR (hall i (by simp)) h
  | i :: j :: is, a, w, _, hall, h => by
    obtain ⟨o, ho⟩ := Option.isSome_iff_exists.1 (hall i (by simp))
    rw [List.map_cons, getD_of_some ho] at h
    simp only [wpList] at h
    simp only [segT5, wpT5, wpStep, ho]
    have ih := fun a w => segT5_sound (L := L) (r := r) (R := R) hR (j :: is) a w (by simp) (fun x hx => hall x (List.mem_cons_of_mem _ hx))
    split
    · rename_i hw
      rw [if_pos hw] at h
      rcases h with h | ⟨_, _, _, h⟩
      · exact wp_nev (fun _ _ _ h => h) (fun ⟨_, _, h⟩ => h.elim) (Oper.wp_mono (fun a' w' h2 => ⟨fun _ hk => (by cases hk), ih _ _ h2⟩) h)
      · exact h.elim
    · rename_i hw
      rw [if_neg hw] at h
      exact ⟨fun _ hk => (by cases hk), ih _ _ h⟩
theorem wpSub_mono {K K' : Act → World → Prop} (hK : ∀ a w, K a w → K' a w) {i : Nat} {a : Act} {w : World} (h : wpSub ops i K a w) : wpSub ops i K' a w := by
  unfold wpSub at *
  split at h
  · obtain ⟨k, x, y, h1, h2, h3⟩ := h
    exact ⟨k, x, y, h1, h2, hK _ _ h3⟩
  · exact h.elim
def stOK5 (ops : Array Oper) : ST5 → Bool
  | .nil => true
  | .seg is _ r => !is.isEmpty && is.all (fun i => (ops[i]?).isSome) && stOK5 ops r
  | .fork i _ r j _ s => (ops[i]?).isSome && (ops[j]?).isSome && stOK5 ops r && stOK5 ops s
  | .sub _ r => stOK5 ops r
theorem st5_sound : ∀ (s : ST5) (a : Act) (w : World), stOK5 ops s = true → wpST5 P ops N s a w → wpT5 P ops N (planS5 s) a w
  | .nil, _, _, _, h => h
  | .seg is L r, a, w, hk, h => by
    simp only [stOK5, Bool.and_eq_true] at hk
    obtain ⟨⟨hne, hall⟩, hk'⟩ := hk
    exact segT5_sound (R := wpST5 P ops N r) (fun a w h => st5_sound r a w hk' h) is a w (by intro e; simp [e] at hne) (fun i hi => List.all_eq_true.1 hall i hi) (wpSg_all h)
  | .fork i L r j M s, a, w, hk, h => by
    simp only [stOK5, Bool.and_eq_true] at hk
    obtain ⟨⟨⟨h1, h2⟩, h3⟩, h4⟩ := hk
    exact ⟨step_sound (R := wpST5 P ops N r) (fun a w h => st5_sound r a w h3 h) h1 (wpSg_all h.1), step_sound (R := wpST5 P ops N s) (fun a w h => st5_sound s a w h4 h) h2 (wpSg_all h.2)⟩
  | .sub i r, a, w, hk, h => wpSub_mono (fun a w h => st5_sound r a w hk h) h
def regionT5 (P : Program) (ops : Array Oper) (nt : Nat) (s : ST5) : Bool :=
  Region.noSelect ops && tblOK ops (Region.before ops).toList && stOK5 ops s && planT5 P ops nt (planS5 s) ops.size (Array.replicate ops.size false) []
/-- THE LAW: as wp_region_fork, and differences of numbers are taken as they stand. -/
theorem wp_region_fork5 {id : Nat} {Q : Exit → Act → World → Prop} {a : Act} {w : World} {ops : List Oper} (s : ST5) (nt : Nat) (hm : P.follows .mixedOrders = true) (hB : regionT5 P ops.toArray nt s = true) (hn : nt ≤ a.tmps.size)
    (h : ∀ N : Act → World → Prop, (∀ a w, Q .normal a w → N a w) → wpST5 P ops.toArray N s a w.drew) : (Code.region id ops.toArray true).wp P Q a w := by
  simp only [regionT5, Bool.and_eq_true] at hB
  obtain ⟨⟨⟨hsel, ht⟩, hk⟩, hp⟩ := hB
  have h0 := st5_sound s a w.drew hk (h (fun a w => Q .normal a w) fun _ _ h => h)
  have hc : Closed .any ops.toArray (Array.replicate ops.toArray.size false) := fun j oj _ hl => by
    have : ∀ n, (Array.replicate n false).getD j false = false := fun n => by
      rcases Nat.lt_or_ge j n with h | h
      · simp [h]
      · simp [h]
    rw [this] at hl
    cases hl
  have h1 := wpAnyP_forget _ _ _ _ (planT5_sound hsel ht (planS5 s) _ _ [] a w.drew hp hn hc (fun k hk => by cases hk) h0)
  exact wp_mono (wp_region_any hm h1) fun e a w he => by cases e <;> first | exact he | exact he.elim
end
end Go.Tt

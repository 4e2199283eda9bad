/- Merged: Plan4 CellT ConG. -/
import Derived.Lib.ItoaLen
import Derived.Test.YtgpdpalhkkjmiaaGreatDoorV04
import Derived.Test.YtgpdpalhkkjmiaaGreatDoorV14
import Derived.Test.YtgpdpalhkkjmiaaGreatDoorV18
import Derived.Test.YtgpdpalhkkjmiaaGreatDoorV19
import Derived.Test.YtgpdpalhkkjmiaaGreatDoorV21
/- A region that draws its order, fourth part: a plan that forks where two operations that write are ready at once (a call, and a new block). No program in sight. -/
namespace Go.Tt
set_option linter.unusedVariables false
set_option linter.unusedSimpArgs false
set_option linter.unusedVariables false
set_option linter.unusedSimpArgs false
section
variable {P : Program} {ops : Array Oper} {N : Act → World → Prop}
/-- A plan that may fork. -/
inductive PT where
  | nil
  | one (i : Nat) (L : List Nat) (r : PT)
  | two (i : Nat) (L : List Nat) (r : PT) (j : Nat) (M : List Nat) (s : PT)
def wpStep (P : Program) (ops : Array Oper) (i : Nat) (L : List Nat) (K : Act → World → Prop) (a : Act) (w : World) : Prop := match ops[i]? with
  | none => False
  | some o => if Region.wanted o (yielded ops a.tmps) then o.wp P a w (fun a' w' => (∀ k ∈ L, Again P ops k a' w') ∧ K a' w') Nev
    else (∀ k ∈ L, Again P ops k (a.put o.dst undef) w) ∧ K (a.put o.dst undef) w
def wpT (P : Program) (ops : Array Oper) (N : Act → World → Prop) : PT → Act → World → Prop
  | .nil => N
  | .one i L r => wpStep P ops i L (wpT P ops N r)
  | .two i L r j M s => fun a w => wpStep P ops i L (wpT P ops N r) a w ∧ wpStep P ops j M (wpT P ops N s) a w
def wrB (ops : Array Oper) (o : Oper) (i : Nat) (L pend : List Nat) : Bool := (pend.filter fun k => !waits ops i k).all fun k => L.contains k && sepB ops o k
def planT (P : Program) (ops : Array Oper) (nt : Nat) : PT → Nat → Array Bool → List Nat → Bool
  | .nil, f, l, _ => f == 0 && (Region.ready .any ops l).isEmpty
  | .one i L r, f, l, pend => match f with
    | 0 => false
    | f + 1 => match ops[i]? with
      | none => false
      | some o =>
        if opCls P o.op = 0 then
          decide (Region.ready .any ops l = [i]) && wrB ops o i L pend && planT P ops nt r f (l.setIfInBounds i true) (pend.filter fun k => !waits ops i k)
        else
          L.isEmpty && (Region.ready .any ops l).contains i && Region.free .any ops l i && (match o.dst with | some d => decide (d < nt) && !(o.looksAt ops).contains d | none => false) && pend.all (fun k => sepB ops o k) &&
            planT P ops nt r f (l.setIfInBounds i true) (if opCls P o.op = 1 then i :: pend else pend)
  | .two i L r j M s, f, l, pend => match f with
    | 0 => false
    | f + 1 => match ops[i]?, ops[j]? with
      | some oi, some oj => opCls P oi.op == 0 && opCls P oj.op == 0 && decide (Region.ready .any ops l = [i, j]) && wrB ops oi i L pend && wrB ops oj j M pend &&
          planT P ops nt r f (l.setIfInBounds i true) (pend.filter fun k => !waits ops i k) && planT P ops nt s f (l.setIfInBounds j true) (pend.filter fun k => !waits ops j k)
      | _, _ => false
theorem writer_ok {f : Nat} {l : Array Bool} {pend L : List Nat} {a : Act} {w : World} {i : Nat} {o : Oper} {K : Act → World → Prop} (hri : i ∈ Region.ready .any ops l) (ho : ops[i]? = some o) (hcl : opCls P o.op = 0) (hall : wrB ops o i L pend = true)
    (hS : SL P ops pend a l a w) (ih : ∀ a' w', a'.tmps.size = a.tmps.size → SL P ops (pend.filter fun k => !waits ops i k) a' (l.setIfInBounds i true) a' w' → K a' w' → wpAnyP P .any ops N (SL P ops (pend.filter fun k => !waits ops i k) a') f (l.setIfInBounds i true) a' w')
    (h : wpStep P ops i L K a w) : wpOp P ops (Nrm N) i (wpAnyP P .any ops N (SL P ops pend a) f (l.setIfInBounds i true)) a w := by
  simp only [wpStep, ho] at h
  have hil : (l.setIfInBounds i true).getD i false = true := by
    have hu := (mem_ready.1 hri).1
    have hlt : i < l.size := by
      rcases Nat.lt_or_ge i l.size with h' | h'
      · exact h'
      · simp [Array.getElem?_eq_none h'] at hu
    simp [hlt]
  have next : ∀ a' w', (∃ v, a'.tmps = (a.put o.dst v).tmps) → (∀ k ∈ L, Again P ops k a' w') → K a' w' → wpAnyP P .any ops N (SL P ops pend a) f (l.setIfInBounds i true) a' w' := by
    rintro a' w' ⟨v, hv⟩ hag hpl
    have sep : ∀ k ∈ (pend.filter fun k => !waits ops i k), L.contains k = true ∧ sepB ops o k = true := fun k hk => by
      have := List.all_eq_true.1 hall k hk
      simpa using this
    have same : ∀ k ∈ (pend.filter fun k => !waits ops i k), ∀ ok d, ops[k]? = some ok → ok.dst = some d → a'.tmps.getD d undef = a.tmps.getD d undef := fun k hk ok d hok hd => by
      rw [hv, getD_put_ne (fun e => (sepB_spec (sep k hk).2 hok).2 d e hd)]
    have hS' : SL P ops (pend.filter fun k => !waits ops i k) a' (l.setIfInBounds i true) a' w' := by
      intro k hk ok d hok hd
      rw [same k hk ok d hok hd]
      have hkp : k ∈ pend := (List.mem_filter.1 hk).1
      rcases hS k hkp ok d hok hd with ⟨j, hj, hj2⟩ | hy
      · exact .inl ⟨j, hj, getD_set_true hj2⟩
      · right
        have hw : Region.wanted ok (yielded ops a'.tmps) = Region.wanted ok (yielded ops a.tmps) := by
          rw [hv, wanted_put ok a o.dst v (sepB_spec (sep k hk).2 hok).1]
        rcases hy with ⟨hy, _⟩ | ⟨hy, hu⟩
        · refine .inl ⟨by rw [hw, hy], ?_⟩
          rw [← same k hk ok d hok hd]
          exact hag k (by simpa using (sep k hk).1) ok d hok hd (by rw [hw, hy])
        · exact .inr ⟨by rw [hw, hy], hu⟩
    refine wpAnyP_mono _ _ _ _ (fun l' a'' w'' hsup hs => ?_) (ih a' w' (by rw [hv, size_put]) hS' hpl)
    intro k hk ok d hok hd
    by_cases hwt : waits ops i k = true
    · exact .inl ⟨i, by simp [relB, ho, hcl, hwt], hsup i hil⟩
    · have hk' : k ∈ pend.filter fun k => !waits ops i k := List.mem_filter.2 ⟨hk, by simp [hwt]⟩
      rw [← same k hk' ok d hok hd]
      exact hs k hk' ok d hok hd
  unfold wpOp
  simp only [ho]
  split at h
  · rename_i hw
    rw [if_pos hw]
    have h5 := Oper.wp_mono (K' := wpAnyP P .any ops N (SL P ops pend a) f (l.setIfInBounds i true)) (fun a' w' h4 => next a' w' h4.2 h4.1.1 h4.1.2) (wp_frame h)
    exact .inl (wp_nev (Q := Nev) (fun _ _ _ h => h.elim) (fun ⟨_, _, h⟩ => h.elim) h5)
  · rename_i hw
    rw [if_neg hw]
    exact next _ _ ⟨undef, rfl⟩ h.1 h.2
theorem wpAnyP_two {i j : Nat} {S : Array Bool → Act → World → Prop} {f : Nat} {l : Array Bool} {a : Act} {w : World} (hr : Region.ready .any ops l = [i, j]) (hS : S l a w)
    (h : wpOp P ops (Nrm N) i (wpAnyP P .any ops N S f (l.setIfInBounds i true)) a w) (h' : wpOp P ops (Nrm N) j (wpAnyP P .any ops N S f (l.setIfInBounds j true)) a w) : wpAnyP P .any ops N S (f + 1) l a w :=
  ⟨hS, fun h0 => (by rw [hr] at h0; cases h0), fun k hk => by
    rw [hr] at hk
    have : k = i ∨ k = j := by simpa using hk
    rcases this with rfl | rfl
    · exact h
    · exact h'⟩
theorem planT_sound (hsel : Region.noSelect ops = true) (ht : tblOK ops (Region.before ops).toList = true) {nt : Nat} :
    ∀ (pl : PT) (f : Nat) (l : Array Bool) (pend : List Nat) (a : Act) (w : World), planT P ops nt pl f l pend = true → nt ≤ a.tmps.size → Closed .any ops l → SL P ops pend a l a w →
      wpT P ops N pl a w → wpAnyP P .any ops N (SL P ops pend a) f l a w
  | .nil, f, l, pend, a, w, hB, _, _, hS, h => by
    simp only [planT, Bool.and_eq_true, beq_iff_eq] at hB
    obtain ⟨rfl, hB⟩ := hB
    exact ⟨hS, by simpa using hB, h⟩
  | .one i L r, 0, l, pend, a, w, hB, hn, hc, hS, h => by simp [planT] at hB
  | .two i L r j M s, 0, l, pend, a, w, hB, hn, hc, hS, h => by simp [planT] at hB
  | .two i L r j M s, f + 1, l, pend, a, w, hB, hn, hc, hS, h => by
    simp only [planT] at hB
    cases hoi : ops[i]? with
    | none => simp [hoi] at hB
    | some oi =>
      cases hoj : ops[j]? with
      | none => simp [hoi, hoj] at hB
      | some oj =>
        simp only [hoi, hoj, Bool.and_eq_true, beq_iff_eq, decide_eq_true_eq] at hB
        obtain ⟨⟨⟨⟨⟨⟨c1, c2⟩, hr⟩, w1⟩, w2⟩, b1⟩, b2⟩ := hB
        have ri : i ∈ Region.ready .any ops l := by rw [hr]; simp
        have rj : j ∈ Region.ready .any ops l := by rw [hr]; simp
        exact wpAnyP_two hr hS (writer_ok ri hoi c1 w1 hS (fun a' w' hz hS' hK => planT_sound hsel ht r f _ _ a' w' b1 (by rw [hz]; exact hn) (closed_set hc ri) hS' hK) h.1)
          (writer_ok rj hoj c2 w2 hS (fun a' w' hz hS' hK => planT_sound hsel ht s f _ _ a' w' b2 (by rw [hz]; exact hn) (closed_set hc rj) hS' hK) h.2)
  | .one i L r, f + 1, l, pend, a, w, hB, hn, hc, hS, h => by
    cases ho : ops[i]? with
    | none => simp [planT, ho] at hB
    | some o =>
      simp only [planT, ho] at hB
      by_cases hcl : opCls P o.op = 0
      · rw [if_pos hcl] at hB
        simp only [Bool.and_eq_true, decide_eq_true_eq] at hB
        obtain ⟨⟨hr, hall⟩, hB'⟩ := hB
        have hri : i ∈ Region.ready .any ops l := by rw [hr]; simp
        exact wpAnyP_only hr hS (writer_ok hri ho hcl hall hS (fun a' w' hz hS' hK => planT_sound hsel ht r f _ _ a' w' hB' (by rw [hz]; exact hn) (closed_set hc hri) hS' hK) h)
      · rw [if_neg hcl] at hB
        simp only [wpT, wpStep, ho] at h
        simp only [Bool.and_eq_true] at hB
        obtain ⟨⟨⟨⟨⟨_, hr⟩, hf⟩, hd⟩, hsep⟩, hB'⟩ := hB
        have hr' : i ∈ Region.ready .any ops l := by simpa using hr
        have hsep' : ∀ k ∈ pend, sepB ops o k = true := List.all_eq_true.1 hsep
        cases hdst : o.dst with
        | none => simp [hdst] at hd
        | some d =>
          simp only [hdst, Bool.and_eq_true, decide_eq_true_eq, Bool.not_eq_true'] at hd
          have hself : ∀ e, o.dst = some e → e ∉ o.looksAt ops := fun e he => by
            rw [hdst] at he
            obtain rfl := Option.some.inj he
            have := hd.2
            simpa using this
          obtain ⟨v, hy, hpl⟩ : ∃ v, Yld P ops o v a w ∧ wpT P ops N r (a.put o.dst v) w := by
            split at h
            · rename_i hw
              obtain ⟨v, h1, h2⟩ := quiet_yields hcl h
              exact ⟨v, .inl ⟨hw, h1⟩, h2.2⟩
            · rename_i hw
              exact ⟨undef, .inr ⟨by simpa using hw, rfl⟩, h.2⟩
          have sel := Region.noSelect_spec hsel
          have hv : (a.put o.dst v).tmps.getD d undef = v := by rw [hdst]; exact getD_put_eq (Nat.lt_of_lt_of_le hd.1 hn)
          have hins : ∀ l' a' w', SL P ops pend a (l'.setIfInBounds i true) (a'.put o.dst v) w' → SL P ops pend a l' a' w' := by
            intro l' a' w' hs k hk ok e hok he
            rcases hs k hk ok e hok he with ⟨j, hj, hj2⟩ | hy
            · refine .inl ⟨j, hj, ?_⟩
              have hne : i ≠ j := fun e => by
                subst e
                simp [relB, ho, hcl] at hj
              rwa [getD_set_ne false hne] at hj2
            · exact .inr ((yld_put (sel k ok · · hok) (sepB_spec (hsep' k hk) hok).1).1 hy)
          have hS0 : SL P ops pend (a.put o.dst v) (l.setIfInBounds i true) (a.put o.dst v) w := sl_put hsel hsep' hS (sup_set l i)
          have back : ∀ {pend' : List Nat} {l' a' w'}, (∀ k ∈ pend, k ∈ pend') → SL P ops pend' (a.put o.dst v) l' a' w' → SL P ops pend a l' a' w' := by
            intro pend' l' a' w' hsub hs k hk ok e hok he
            have := hs k (hsub k hk) ok e hok he
            rwa [getD_put_ne (fun x => (sepB_spec (hsep' k hk) hok).2 e x he)] at this
          by_cases h1 : opCls P o.op = 1
          · rw [if_pos h1] at hB'
            have hS1 : SL P ops (i :: pend) (a.put o.dst v) (l.setIfInBounds i true) (a.put o.dst v) w := by
              intro k hk ok e hok he
              rcases List.mem_cons.1 hk with rfl | hk
              · have : ok = o := Option.some.inj (hok.symm.trans ho)
                subst this
                rw [hdst] at he
                obtain rfl := Option.some.inj he
                rw [hv]
                exact .inr ((yld_put (sel k ok · · hok) hself).2 hy)
              · exact hS0 k hk ok e hok he
            refine wpAnyP_read ho hsel (rel := relB P ops i) (v := v) (by simp [relB, ho, hcl]) (fun l' hc' j hj hl => ?_) hself hins f l a w hc (Region.free_spec ho hf) hr'
              (wpAnyP_mono _ _ _ _ (fun l' a' w' _ hs => ⟨back (fun k hk => List.mem_cons_of_mem _ hk) hs, ?_⟩) (planT_sound hsel ht r f _ _ _ w hB' (by rw [size_put]; exact hn) (closed_set hc hr') hS1 hpl))
            · cases hoj : ops[j]? with
              | none => simp [relB, hoj] at hj
              | some oj =>
                simp only [relB, hoj, Bool.and_eq_true] at hj
                exact tbl_listed ht hc' j hj.2 hl (Array.getElem?_eq_some_iff.1 hoj).1
            · have := hs i List.mem_cons_self o d ho hdst
              rwa [hv] at this
          · rw [if_neg h1] at hB'
            have h2 : opCls P o.op = 2 := by have := cls_le P o.op; omega
            have hyy : Yields P ops o v a := by
              rcases hy with ⟨hw, hrun⟩ | hy
              · exact .inl ⟨hw, (opCls_const h2 w _ _ hrun).2⟩
              · exact .inr hy
            exact wpAnyP_const ho hsel hins f l a w (Region.free_spec ho hf) hr' hyy
              (wpAnyP_mono _ _ _ _ (fun l' a' w' _ hs => back (fun k hk => hk) hs) (planT_sound hsel ht r f _ _ _ w hB' (by rw [size_put]; exact hn) (closed_set hc hr') hS0 hpl))

/-! ### For the walk -/
inductive ST where
  | nil
  | seg (is : List Nat) (L : List Nat) (r : ST)
  | fork (i : Nat) (L : List Nat) (r : ST) (j : Nat) (M : List Nat) (s : ST)
def wpSg (P : Program) (ops : Array Oper) (R : Act → World → Prop) (is : List Nat) (a : Act) (w : World) : List Nat → Prop
  | [] => wpList P ops (Exit.then R fun _ _ _ => False) (is.map fun i => ops.toList.getD i default) a w
  | k :: L => wpList P ops (Exit.then (fun a' w' => (∀ j ∈ k :: L, Again P ops j a' w') ∧ R a' w') fun _ _ _ => False) (is.map fun i => ops.toList.getD i default) a w
def wpST (P : Program) (ops : Array Oper) (N : Act → World → Prop) : ST → Act → World → Prop
  | .nil => N
  | .seg is L r => fun a w => wpSg P ops (wpST P ops N r) is a w L
  | .fork i L r j M s => fun a w => wpSg P ops (wpST P ops N r) [i] a w L ∧ wpSg P ops (wpST P ops N s) [j] a w M
def segT : List Nat → List Nat → PT → PT
  | [], _, r => r
  | [i], L, r => .one i L r
  | i :: is, L, r => .one i [] (segT is L r)
def planS : ST → PT
  | .nil => .nil
  | .seg is L r => segT is L (planS r)
  | .fork i L r j M s => .two i L (planS r) j M (planS s)
theorem wpSg_all {R : Act → World → Prop} {is L : List Nat} {a : Act} {w : World} (h : wpSg P ops R is a w L) :
    wpList P ops (Exit.then (fun a' w' => (∀ k ∈ L, Again P ops k a' w') ∧ R a' w') fun _ _ _ => False) (is.map fun i => ops.toList.getD i default) a w := by
  cases L with
  | nil => exact wpList_then (fun a w h => ⟨fun _ hk => (by cases hk), h⟩) _ a w h
  | cons k L => exact h
theorem step_sound {L : List Nat} {R R' : Act → World → Prop} (hR : ∀ a w, R a w → R' a w) {i : Nat} {a : Act} {w : World} (hin : (ops[i]?).isSome = true)
    (h : wpList P ops (Exit.then (fun a' w' => (∀ k ∈ L, Again P ops k a' w') ∧ R a' w') fun _ _ _ => False) ([i].map fun i => ops.toList.getD i default) a w) : wpStep P ops i L R' a w := by
  obtain ⟨o, ho⟩ := Option.isSome_iff_exists.1 hin
  rw [List.map_cons, getD_of_some ho] at h
  simp only [List.map_nil, wpList] at h
  simp only [wpStep, ho]
  split
  · rename_i hw
    rw [if_pos hw] at h
    rcases h with h | ⟨_, _, _, h⟩
    · exact wp_nev (fun _ _ _ h => h) (fun ⟨_, _, h⟩ => h.elim) (Oper.wp_mono (fun a' w' ⟨h1, h2⟩ => ⟨h1, hR _ _ h2⟩) h)
    · exact h.elim
  · rename_i hw
    rw [if_neg hw] at h
    exact ⟨h.1, hR _ _ h.2⟩
theorem segT_sound {L : List Nat} {r : PT} {R : Act → World → Prop} (hR : ∀ a w, R a w → wpT P ops N r a w) : ∀ (is : List Nat) (a : Act) (w : World), is ≠ [] → (∀ i ∈ is, (ops[i]?).isSome = true) →
    wpList P ops (Exit.then (fun a' w' => (∀ k ∈ L, Again P ops k a' w') ∧ R a' w') fun _ _ _ => False) (is.map fun i => ops.toList.getD i default) a w → wpT P ops N (segT is L r) a w
  | [], _, _, h0, _, _ => absurd rfl h0
  | [i], a, w, _, hall, h => step_sound hR (hall i (by simp)) h
  | i :: j :: is, a, w, _, hall, h => by
    obtain ⟨o, ho⟩ := Option.isSome_iff_exists.1 (hall i (by simp))
    rw [List.map_cons, getD_of_some ho] at h
    simp only [wpList] at h
    simp only [segT, wpT, wpStep, ho]
    have ih := fun a w => segT_sound (L := L) (r := r) (R := R) hR (j :: is) a w (by simp) (fun x hx => hall x (List.mem_cons_of_mem _ hx))
    split
    · rename_i hw
      rw [if_pos hw] at h
      rcases h with h | ⟨_, _, _, h⟩
      · exact wp_nev (fun _ _ _ h => h) (fun ⟨_, _, h⟩ => h.elim) (Oper.wp_mono (fun a' w' h2 => ⟨fun _ hk => (by cases hk), ih _ _ h2⟩) h)
      · exact h.elim
    · rename_i hw
      rw [if_neg hw] at h
      exact ⟨fun _ hk => (by cases hk), ih _ _ h⟩
def stOK (ops : Array Oper) : ST → Bool
  | .nil => true
  | .seg is _ r => !is.isEmpty && is.all (fun i => (ops[i]?).isSome) && stOK ops r
  | .fork i _ r j _ s => (ops[i]?).isSome && (ops[j]?).isSome && stOK ops r && stOK ops s
theorem st_sound : ∀ (s : ST) (a : Act) (w : World), stOK ops s = true → wpST P ops N s a w → wpT P ops N (planS s) a w
  | .nil, _, _, _, h => h
  | .seg is L r, a, w, hk, h => by
    simp only [stOK, Bool.and_eq_true] at hk
    obtain ⟨⟨hne, hall⟩, hk'⟩ := hk
    exact segT_sound (R := wpST P ops N r) (fun a w h => st_sound r a w hk' h) is a w (by intro e; simp [e] at hne) (fun i hi => List.all_eq_true.1 hall i hi) (wpSg_all h)
  | .fork i L r j M s, a, w, hk, h => by
    simp only [stOK, Bool.and_eq_true] at hk
    obtain ⟨⟨⟨h1, h2⟩, h3⟩, h4⟩ := hk
    exact ⟨step_sound (R := wpST P ops N r) (fun a w h => st_sound r a w h3 h) h1 (wpSg_all h.1), step_sound (R := wpST P ops N s) (fun a w h => st_sound s a w h4 h) h2 (wpSg_all h.2)⟩
def regionT (P : Program) (ops : Array Oper) (nt : Nat) (s : ST) : Bool :=
  Region.noSelect ops && tblOK ops (Region.before ops).toList && stOK ops s && planT P ops nt (planS s) ops.size (Array.replicate ops.size false) []
/-- THE LAW: a region that draws its order, by a plan that may fork. -/
theorem wp_region_fork {id : Nat} {Q : Exit → Act → World → Prop} {a : Act} {w : World} {ops : List Oper} (s : ST) (nt : Nat) (hm : P.follows .mixedOrders = true) (hB : regionT P ops.toArray nt s = true) (hn : nt ≤ a.tmps.size)
    (h : ∀ N : Act → World → Prop, (∀ a w, Q .normal a w → N a w) → wpST P ops.toArray N s a w.drew) : (Code.region id ops.toArray true).wp P Q a w := by
  simp only [regionT, Bool.and_eq_true] at hB
  obtain ⟨⟨⟨hsel, ht⟩, hk⟩, hp⟩ := hB
  have h0 := st_sound s a w.drew hk (h (fun a w => Q .normal a w) fun _ _ h => h)
  have hc : Closed .any ops.toArray (Array.replicate ops.toArray.size false) := fun j oj _ hl => by
    have : ∀ n, (Array.replicate n false).getD j false = false := fun n => by
      rcases Nat.lt_or_ge j n with h | h
      · simp [h]
      · simp [h]
    rw [this] at hl
    cases hl
  have h1 := wpAnyP_forget _ _ _ _ (planT_sound hsel ht (planS s) _ _ [] a w.drew hp hn hc (fun k hk => by cases hk) h0)
  exact wp_mono (wp_region_any hm h1) fun e a w he => by cases e <;> first | exact he | exact he.elim
end
end Go.Tt

/- Layer 12: cell.number, cell.texts. -/
namespace Go.Proofs.YtgpdpalhkkjmiaaGreatDoor
set_option linter.unusedVariables false
set_option linter.unusedSimpArgs false
open Go.RowKit Go.Lib Go.Tt Go.Shelf
/-- The table that strconv.Itoa reads. -/
def Tab (w : World) : Prop := Lib.TabIs Tryz.prog w "internal/strconv.uint64pow10" .u64 Lib.pow10Tab
theorem Tab.frm {w w' : World} (h : Tab w) (f : Frm No w w') : Tab w' := by
  unfold Tab Lib.TabIs World.var? at *
  cases hg : Tryz.prog.globalNamed "internal/strconv.uint64pow10" with
  | none => rw [hg] at h; cases h
  | some g =>
    rw [hg] at h
    simp only [Option.bind_some] at h ⊢
    split at h
    · next cs t fz hc => rw [f.obj hc id]; exact h
    · cases h
theorem frm_grow (w : World) (k : Nat) (os : Array Obj) : Frm No w (Go.Sort.grow (w.drewN k) os) := by
  refine (Frm.drewN No w k).trans ⟨rfl, rfl, rfl, by simp [Go.Sort.grow], fun j hj _ => by simp only [Go.Sort.grow]; exact Array.getElem?_append_left hj⟩
/-- A number told. -/
def numT (p : Int × Int) : List UInt8 := if p.2 = 0 then Lib.itoa p.1 else 91 :: (Lib.itoa p.1 ++ 44 :: (Lib.itoa p.2 ++ [93]))
theorem itoa_ok (n : Int) (h : -4503599627370496 ≤ n ∧ n ≤ 4503599627370496) {w : World} (ht : Tab w) :
    Calls Tryz.prog 28 #[.int .i64 n] w fun e w' => e = .returned (.string ⟨(Lib.itoa n).toArray⟩) ∧ Frm No w w' :=
  (Tryz.strconv_Itoa n (by omega) (by omega) w ht).mono fun e w' ⟨he, k, os, hw⟩ => ⟨he, by rw [hw]; exact frm_grow w k os⟩
theorem numT_two {p : Int × Int} (h : p.2 ≠ 0) : (⟨#[91]⟩ : ByteArray) ++ ⟨(Lib.itoa p.1).toArray⟩ ++ ⟨#[44]⟩ ++ ⟨(Lib.itoa p.2).toArray⟩ ++ ⟨#[93]⟩ = ⟨(numT p).toArray⟩ := by
  unfold numT
  rw [if_neg h]
  apply ByteArray.ext
  simp [ByteArray.data_append]
end Go.Proofs.YtgpdpalhkkjmiaaGreatDoor

/- The console's lower layers: frame.Sum, gauss.Sum, gauss.Text, rga.At. -/
namespace Go.Proofs.YtgpdpalhkkjmiaaGreatDoor
set_option linter.unusedVariables false
set_option linter.unusedSimpArgs false
open Go.RowKit Go.Lib Go.Tt Go.Shelf
theorem adl_step : ∀ (l : List UInt8) (a b : Nat) (x : UInt8), adlG a b (x :: l) = adlG ((a + x.toNat) % 65521) ((b + (a + x.toNat) % 65521) % 65521) l := fun _ _ _ _ => rfl
theorem adl_lt : ∀ (l : List UInt8) (a b : Nat), a < 65521 → b < 65521 → adlG a b l < 4294967296
  | [], a, b, ha, hb => by show b * 65536 + a < _; omega
  | x :: t, a, b, ha, hb => adl_lt t _ _ (Nat.mod_lt _ (by decide)) (Nat.mod_lt _ (by decide))
set_option maxHeartbeats 1000000 in
set_option maxRecDepth 100000 in
theorem frameSum_ok (s : ByteArray) (hs : s.size ≤ 9223372036854775807) (w : World) : Calls Tryz.prog 67 #[.string s] w fun e w' => e = .returned (.int .i64 (adlG 1 0 s.data.toList : Nat)) ∧ w = w' := by
  obtain ⟨l, hl⟩ : ∃ l, l = s.data.toList := ⟨_, rfl⟩
  have hsz : s.size = l.length := by rw [hl]; exact size_eq s
  have HL := Lib.hid hl
  rw [← hl]
  clear hl
  go_enter Tryz.func67, Tryz.ntmps67
  go_wp2_with (fail)
  go_loopg [3, 4, 8] (s.size + 1) (fun g av bv iv wr => ∃ (i a b : Nat), iv = .int .i64 i ∧ av = .int .i64 a ∧ bv = .int .i64 b ∧ i ≤ s.size ∧ g = s.size - i + 1 ∧ w = wr ∧ a < 65521 ∧ b < 65521 ∧ adlG 1 0 l = adlG a b (l.drop i))
  case atStart => exact ⟨0, 1, 0, rfl, rfl, rfl, Nat.zero_le _, by omega, rfl, by omega, by omega, rfl⟩
  case round =>
    obtain ⟨i, a, b, rfl, rfl, rfl, hi, hg, rfl, ha, hb, he⟩ := hrel
    have HG := Lib.hid hg
    have HE := Lib.hid he
    clear hg he
    by_cases hlt : i < s.size
    · have hil : i < l.length := by omega
      have hd : l.drop i = s[i] :: l.drop (i + 1) := by
        have e : l[i] = s[i] := by
          have := HL.out
          subst this
          rfl
        rw [List.drop_eq_getElem_cons hil, e]
      have HD := Lib.hid hd
      have hx256 : s[i].toNat < 256 := s[i].toNat_lt
      clear hd
      go_wp2_with (fail)
      go_roundg (s.size - (i + 1) + 1)
      case measure => have := HG.out; omega
      case rel => exact ⟨i + 1, (a + s[i].toNat) % 65521, (b + (a + s[i].toNat) % 65521) % 65521, by go_num, by go_num, by go_num, by omega, rfl, rfl, Nat.mod_lt _ (by decide), Nat.mod_lt _ (by decide), by rw [HE.out, HD.out]; rfl⟩
    · obtain rfl : i = s.size := by omega
      go_wp2_with (fail)
      go_ret
      have hdn : l.drop s.size = [] := List.drop_eq_nil_of_le (by omega)
      have hb2 := adl_lt [] a b ha hb
      rw [HE.out, hdn]
      unfold adlG at hb2 ⊢
      exact ⟨by congr 2, rfl⟩
end Go.Proofs.YtgpdpalhkkjmiaaGreatDoor

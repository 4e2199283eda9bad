/- Merged: Data Blk Blk2. -/
import Derived.Laws.CopyRow
import Derived.Test.YtgpdpalhkkjmiaaGreatDoorV01
/- Slices as lists: what reads, what is owned. No program in sight. -/
namespace Go.Tt
set_option linter.unusedVariables false
set_option linter.unusedSimpArgs false
set_option linter.unusedVariables false
set_option linter.unusedSimpArgs false
open Go.RowKit Go.Lib

/-- How an element is told by its cells. -/
structure Enc (α : Type) where
  k : Nat
  f : α → List Value
  len : ∀ x, (f x).length = k
  one : ∀ x, ∀ u ∈ f x, u.oneCell' = true
  pos : 0 < k

section
variable {α : Type}
def Enc.flat (E : Enc α) (l : List α) : List Value := l.flatMap E.f
theorem Enc.flat_nil (E : Enc α) : E.flat [] = [] := rfl
theorem Enc.flat_cons (E : Enc α) (x : α) (l : List α) : E.flat (x :: l) = E.f x ++ E.flat l := by simp [Enc.flat]
theorem Enc.flat_append (E : Enc α) (a b : List α) : E.flat (a ++ b) = E.flat a ++ E.flat b := by simp [Enc.flat]
theorem Enc.flat_one (E : Enc α) (x : α) : E.flat [x] = E.f x := by simp [Enc.flat]
theorem Enc.flat_len (E : Enc α) (l : List α) : (E.flat l).length = l.length * E.k := by
  induction l with
  | nil => simp [Enc.flat]
  | cons x l ih => rw [E.flat_cons, List.length_append, E.len, ih, List.length_cons, Nat.add_mul, Nat.one_mul, Nat.add_comm]
theorem Enc.flat_one' (E : Enc α) (l : List α) : ∀ u ∈ E.flat l, u.oneCell' = true := by
  intro u hu
  obtain ⟨x, _, hx⟩ := List.mem_flatMap.1 hu
  exact E.one x u hx
theorem Enc.flat_get (E : Enc α) {l : List α} {i j : Nat} (hi : i < l.length) (hj : j < E.k) : (E.flat l)[i * E.k + j]? = (E.f l[i])[j]? := by
  induction l generalizing i with
  | nil => simp at hi
  | cons x l ih =>
    rw [E.flat_cons]
    cases i with
    | zero => rw [Nat.zero_mul, Nat.zero_add, List.getElem?_append_left (by rw [E.len]; exact hj)]; rfl
    | succ i =>
      have e : (i + 1) * E.k + j = (E.f x).length + (i * E.k + j) := by rw [E.len, Nat.add_mul, Nat.one_mul]; omega
      rw [e, List.getElem?_append_right (Nat.le_add_right _ _), Nat.add_sub_cancel_left]
      exact ih (by simpa using hi)
theorem Enc.flat_take (E : Enc α) (l : List α) (m : Nat) : (E.flat l).take (m * E.k) = E.flat (l.take m) := by
  induction l generalizing m with
  | nil => simp [Enc.flat]
  | cons x l ih =>
    cases m with
    | zero => simp [Enc.flat]
    | succ m =>
      rw [List.take_succ_cons, E.flat_cons, E.flat_cons, ← ih m, Nat.add_mul, Nat.one_mul, Nat.add_comm, List.take_append, E.len, Nat.add_sub_cancel_left, List.take_of_length_le (by rw [E.len]; omega)]

/-- The block of a slice that has elements. -/
def sblk : Value → Option Nat
  | .slice (some a) (_ + 1) _ => some a.block
  | _ => none

/-- A slice value that reads as a list. -/
def RdS (w : World) (E : Enc α) (v : Value) (l : List α) : Prop :=
  ∃ a c, v = .slice a l.length c ∧ l.length ≤ c ∧ c ≤ maxLen ∧ (a = none → l.length = 0 ∧ c = 0) ∧
    (0 < l.length → ∃ b off, a = some ⟨b, off, none⟩ ∧ ∀ m u, (E.flat l)[m]? = some u → w.cell? ⟨b, off + m, none⟩ = some u)

theorem RdS.sh {w : World} {E : Enc α} {v : Value} {l : List α} (h : RdS w E v l) : ∃ a c, v = .slice a l.length c := by
  obtain ⟨a, c, h, _⟩ := h; exact ⟨a, c, h⟩
theorem RdS.facts {w : World} {E : Enc α} {a : Option Addr} {n c : Nat} {l : List α} (h : RdS w E (.slice a n c) l) : n = l.length ∧ n ≤ c ∧ c ≤ maxLen ∧ (a = none → n = 0 ∧ c = 0) := by
  obtain ⟨a', c', h1, h2, h3, h4, h5⟩ := h
  simp only [Value.slice.injEq] at h1
  obtain ⟨rfl, rfl, rfl⟩ := h1
  exact ⟨rfl, h2, h3, h4⟩
/-- Element i of a slice that reads: where it lies. -/
theorem RdS.at {w : World} {E : Enc α} {a : Option Addr} {n c : Nat} {l : List α} (h : RdS w E (.slice a n c) l) {i : Nat} (hi : i < l.length) :
    ∃ b off, a = some ⟨b, off, none⟩ ∧ b < w.heap.size ∧ ∀ j u, (E.f l[i])[j]? = some u → w.cell? ⟨b, off + (i * E.k + j), none⟩ = some u := by
  obtain ⟨a', c', h1, h2, h3, h4, h5⟩ := h
  simp only [Value.slice.injEq] at h1
  obtain ⟨rfl, rfl, rfl⟩ := h1
  obtain ⟨b, off, ha, hc⟩ := h5 (by omega)
  have key : ∀ j u, (E.f l[i])[j]? = some u → w.cell? ⟨b, off + (i * E.k + j), none⟩ = some u := fun j u hu => by
    have hj : j < E.k := by
      have := (List.getElem?_eq_some_iff.1 hu).1
      rwa [E.len] at this
    exact hc _ u (by rw [E.flat_get hi hj]; exact hu)
  refine ⟨b, off, ha, ?_, key⟩
  have h0 : 0 < (E.f l[i]).length := by rw [E.len]; exact E.pos
  exact World.block_lt_of_cell? _ _ (key 0 _ (List.getElem?_eq_getElem h0))
theorem RdS.mono {w w' : World} {E : Enc α} {v : Value} {l : List α} (h : RdS w E v l) (hw : ∀ q : Addr, sblk v = some q.block → w'.cell? q = w.cell? q) : RdS w' E v l := by
  obtain ⟨a, c, rfl, h2, h3, h4, h5⟩ := h
  refine ⟨a, c, rfl, h2, h3, h4, fun hl => ?_⟩
  obtain ⟨b, off, rfl, hc⟩ := h5 hl
  refine ⟨b, off, rfl, fun m u hu => ?_⟩
  rw [hw ⟨b, off + m, none⟩ (by obtain ⟨n, hn⟩ : ∃ n, l.length = n + 1 := ⟨l.length - 1, by omega⟩
                                rw [hn]; rfl)]
  exact hc m u hu
theorem RdS.blk_lt {w : World} {E : Enc α} {v : Value} {l : List α} (h : RdS w E v l) {g : Nat} (hg : sblk v = some g) : g < w.heap.size := by
  obtain ⟨a, c, rfl, h2, h3, h4, h5⟩ := h
  have hl : 0 < l.length := by
    rcases Nat.eq_zero_or_pos l.length with h0 | h0
    · rw [h0] at hg; cases a <;> simp [sblk] at hg
    · exact h0
  obtain ⟨b, off, rfl, hc⟩ := h5 hl
  obtain ⟨n, hn⟩ : ∃ n, l.length = n + 1 := ⟨l.length - 1, by omega⟩
  rw [hn] at hg
  obtain rfl : b = g := Option.some.inj hg
  have h0 : 0 < (E.flat l).length := by rw [E.flat_len]; exact Nat.mul_pos hl E.pos
  exact World.block_lt_of_cell? _ _ (hc 0 _ (List.getElem?_eq_getElem h0))
theorem RdS.frm {F : Nat → Prop} {w w' : World} {E : Enc α} {v : Value} {l : List α} (h : RdS w E v l) (hf : Frm F w w') (hF : ∀ g, sblk v = some g → ¬ F g) : RdS w' E v l :=
  h.mono fun p hp => hf.cell (h.blk_lt hp) (hF _ hp)
theorem RdS.below {B : Nat} {w w' : World} {E : Enc α} {v : Value} {l : List α} (h : RdS w E v l) (hb : Below B w w') (hB : ∀ g, sblk v = some g → g < B) : RdS w' E v l :=
  h.mono fun p hp => hb.cell (hB _ hp)
theorem RdS.nil (w : World) (E : Enc α) : RdS w E (.slice none 0 0) [] := ⟨none, 0, rfl, Nat.le_refl _, Nat.zero_le _, fun _ => ⟨rfl, rfl⟩, fun h => by simp at h⟩

/-- A slice of the call's own: it has no room at all, or its block lies in the footprint. -/
def Ow (w : World) (F : Nat → Prop) (e : TypeId) (E : Enc α) (v : Value) (l : List α) : Prop :=
  (∃ a, v = .slice a 0 0 ∧ l = []) ∨ (w.ownsRow 0 e E.k v l.length (E.flat l) ∧ ∀ g, v.ownBlock = some g → F g)

theorem Ow.nil (w : World) (F : Nat → Prop) (e : TypeId) (E : Enc α) (a : Option Addr) : Ow w F e E (.slice a 0 0) [] := .inl ⟨a, rfl, rfl⟩
theorem Ow.sh {w : World} {F : Nat → Prop} {e : TypeId} {E : Enc α} {v : Value} {l : List α} (h : Ow w F e E v l) : ∃ a c, v = .slice a l.length c := by
  rcases h with ⟨a, rfl, rfl⟩ | ⟨h, _⟩
  · exact ⟨a, 0, rfl⟩
  · obtain ⟨a, c, rfl⟩ := own_sh h; exact ⟨a, c, rfl⟩
theorem Ow.cap {w : World} {F : Nat → Prop} {e : TypeId} {E : Enc α} {a : Option Addr} {n c : Nat} {l : List α} (h : Ow w F e E (.slice a n c) l) : n = l.length ∧ n ≤ c := by
  rcases h with ⟨a', h1, rfl⟩ | ⟨h, _⟩
  · simp at h1; obtain ⟨rfl, rfl, rfl⟩ := h1; exact ⟨rfl, Nat.le_refl _⟩
  · obtain ⟨a', c', h1⟩ := own_sh h
    simp at h1; obtain ⟨rfl, rfl, rfl⟩ := h1
    exact ⟨rfl, own_cap h⟩
theorem Ow.mono {w : World} {F G : Nat → Prop} {e : TypeId} {E : Enc α} {v : Value} {l : List α} (h : Ow w F e E v l) (hs : ∀ k, k < w.heap.size → F k → G k) : Ow w G e E v l := by
  rcases h with h | ⟨h, hf⟩
  · exact .inl h
  · exact .inr ⟨h, fun g hg => hs g (own_lt h hg) (hf g hg)⟩
theorem Ow.frm {w w' : World} {F G : Nat → Prop} {e : TypeId} {E : Enc α} {v : Value} {l : List α} (h : Ow w F e E v l) (hf : Frm G w w') (hd : ∀ k, F k → ¬ G k) : Ow w' F e E v l := by
  rcases h with h | ⟨h, hF⟩
  · exact .inl h
  · exact .inr ⟨own_frm h hf fun g hg => hd g (hF g hg), hF⟩
theorem Ow.drewN {w : World} {F : Nat → Prop} {e : TypeId} {E : Enc α} {v : Value} {l : List α} (h : Ow w F e E v l) (n : Nat) : Ow (w.drewN n) F e E v l := h.frm (G := No) (Frm.drewN No w n) fun _ _ h => h
theorem sblk_own {v : Value} {g : Nat} (h : sblk v = some g) : v.ownBlock = some g := by
  match v, h with
  | .slice (some a) (_ + 1) _, h => exact h
theorem Ow.blk {w : World} {F : Nat → Prop} {e : TypeId} {E : Enc α} {v : Value} {l : List α} (h : Ow w F e E v l) {g : Nat} (hg : sblk v = some g) : F g := by
  rcases h with ⟨a, rfl, rfl⟩ | ⟨h, hF⟩
  · cases a <;> simp [sblk] at hg
  · exact hF g (sblk_own hg)
theorem Ow.rd {w : World} {F : Nat → Prop} {e : TypeId} {E : Enc α} {v : Value} {l : List α} (h : Ow w F e E v l) : RdS w E v l := by
  rcases h with ⟨a, rfl, rfl⟩ | ⟨h, _⟩
  · exact ⟨a, 0, rfl, Nat.le_refl _, Nat.zero_le _, fun _ => ⟨rfl, rfl⟩, fun h => by simp at h⟩
  · obtain ⟨a, c, rfl⟩ := own_sh h
    rcases own_cases h with ⟨rfl, h0, rfl, h2⟩ | ⟨g, rfl, _, _⟩
    · exact ⟨none, 0, rfl, by omega, Nat.zero_le _, fun _ => ⟨h0, rfl⟩, fun h => by omega⟩
    · refine ⟨_, c, rfl, own_cap h, ?_, (by intro h; cases h), fun hl => ⟨g, 0, rfl, fun m u hu => ?_⟩⟩
      · rcases h.2 with ⟨hv, _⟩ | ⟨g', cap, cur, hv, _, _, _, hm, _⟩
        · simp at hv
        · simp at hv; omega
      · have hm := (List.getElem?_eq_some_iff.1 hu).1
        rw [Nat.zero_add, h.cellAt m (by rw [← E.flat_len]; exact hm)]
        simp [List.getD, hu]
end

section
variable {P : Program} {α : Type}
theorem RdS.first {w : World} {E : Enc α} {a : Option Addr} {n c : Nat} {l : List α} (h : RdS w E (.slice a n c) l) : (Builtin.firstCells E.k n (.slice a n c)).run P w = .ok (E.flat l).toArray w := by
  obtain ⟨a', c', h1, h2, h3, h4, h5⟩ := h
  simp only [Value.slice.injEq] at h1
  obtain ⟨rfl, rfl, rfl⟩ := h1
  rcases Nat.eq_zero_or_pos l.length with h0 | h0
  · obtain rfl := List.eq_nil_of_length_eq_zero h0
    cases a with
    | none => simp [Builtin.firstCells, Enc.flat]
    | some b => exact run_firstCells_some w E.k 0 b 0 c [] (by simp) (fun j v hj => by simp at hj)
  · obtain ⟨b, off, rfl, hc⟩ := h5 h0
    exact run_firstCells_some w E.k _ ⟨b, off, none⟩ _ c (E.flat l) (E.flat_len l) fun j v hj => by rw [Addr.add_lit]; exact hc j v hj
theorem RdS.drew {w : World} {E : Enc α} {v : Value} {l : List α} (h : RdS w E v l) : RdS w.drew E v l := h.mono fun _ _ => rfl
theorem RdS.src {w : World} {E : Enc α} {a : Option Addr} {n c : Nat} {l : List α} {tx e' : TypeId} (h : RdS w E (.slice a n c) l) (hk : P.underlying tx = some (.slice e')) : Src P E.k tx (.slice a n c) n (E.flat l) w :=
  ⟨.inl ⟨e', hk⟩, fun _ => rfl, h.first, h.drew.first, by rw [E.flat_len, h.facts.1], E.flat_one' l⟩

/-- append onto what is the call's own. -/
theorem run_ap (w : World) (t tx ty e : TypeId) (z : Value) (bytes : Nat) {E : Enc α} (ht : P.underlying t = some (.slice e)) (hi : (P.info? e).map (fun i => (i.zero, i.size, i.bytes)) = some (some z, E.k, bytes)) (hzs : z.cells.size = E.k)
    {F : Nat → Prop} {v : Value} {l l2 : List α} (own : Ow w F e E v l) {x : Value} {m : Nat} (hs : Src P E.k tx x m (E.flat l2) w) (hm : m = l2.length) (h63 : l.length + m ≤ maxLen) (hbytes : (l.length + m) * bytes ≤ 140737488355328) :
    ∃ a' c' w', (Builtin.append_ #[t, tx] ty #[v, x]).run P w = .ok (.slice a' (l.length + m) c') w' ∧ Ow w' (Nw F w w') e E (.slice a' (l.length + m) c') (l ++ l2) ∧ Frm F w w' := by
  subst hm
  rcases own with ⟨a, rfl, rfl⟩ | ⟨own, hF⟩
  · simp only [List.length_nil, Nat.zero_add] at h63 hbytes ⊢
    obtain ⟨i, hi', hz, hk, hb⟩ := info_parts hi
    rcases Nat.eq_zero_or_pos l2.length with h0 | h0
    · obtain rfl := List.eq_nil_of_length_eq_zero h0
      refine ⟨a, 0, w, ?_, .inl ⟨a, rfl, rfl⟩, Frm.refl _ _⟩
      rcases hs.kind with ⟨e', hk'⟩ | hk' <;>
        simp [Builtin.append_, run_underlying ht, run_underlying hk', sizeOf, typeInfo, hi', hs.len, hs.cells, hk, Enc.flat]
      all_goals (have hcl : (Builtin.firstCells E.k 0 x).run P w = .ok #[] w := hs.cells); rw [hcl]; cases a <;> simp [storeCells]
    · have hge := grownCap_ge w (l2.length) 0 e
      have hcm : grownCap w (l2.length) 0 e ≤ maxLen := grownCap_le_maxLen w (l2.length) 0 e h63
      have hold : (Builtin.firstCells i.size 0 (.slice a 0 0)).run P w.drew = .ok ([] : List Value).toArray w.drew := by
        cases a with
        | none => simp [Builtin.firstCells]
        | some b => exact run_firstCells_some w.drew i.size 0 b 0 0 [] (by simp) (fun j v hj => by simp at hj)
      have hr := run_append_grow_src (P := P) w t tx ty e i z ht hi' hz a 0 0 [] hold x l2.length (E.flat l2) (by rw [hk]; exact hs) (by omega) (by simp only [maxLen] at h63; omega) (growslice_fits (by omega) (by rw [hb]; simpa using hbytes))
      simp only [Nat.zero_add] at hr
      refine ⟨_, _, _, hr, .inr ⟨⟨by rw [List.nil_append, E.flat_len], .inr ⟨w.heap.size, _, _, rfl, Nat.zero_le _, heap_alloc_new w.drew _, ?_, hcm, ?_, ?_⟩⟩, ?_⟩, ⟨rfl, rfl, rfl, by simp, fun j hj _ => Below.heap_alloc w.drew _ j hj⟩⟩
      · simpa using hge
      · simp only [Array.size_append, List.size_toArray, size_zeroCells, hzs, E.flat_len, List.nil_append, ← Nat.add_mul]
        congr 1
        omega
      · simp only [Array.toList_append, List.nil_append]
        rw [← E.flat_len]
        exact List.take_left
      · intro g hg
        obtain rfl : w.heap.size = g := Option.some.inj hg
        exact .inr ⟨Nat.le_refl _, by simp⟩
  · obtain ⟨a', c', w', hr, h2, h3, h4⟩ := run_app (P := P) w t tx ty e z E.k bytes ht hi hzs own hs h63 hbytes (Nat.zero_le _)
    refine ⟨a', c', w', hr, .inr ⟨by rw [E.flat_append, List.length_append]; exact h2, fun g hg => ?_⟩, (Frm.of_grown h3).mono fun k _ hk => hF k hk.symm⟩
    rcases h4 with h4 | h4
    · exact .inl (hF g (h4 ▸ hg))
    · rw [h4] at hg
      obtain rfl := Option.some.inj hg
      exact .inr ⟨Nat.le_refl _, own_lt h2 h4⟩

theorem wpList_ap (w : World) {ops : Array Oper} {rest : List Oper} {o : Oper} {a : Act} {Q : Exit → Act → World → Prop} (hgd : o.guard = none) (s x : Operand) (t tx : TypeId)
    (ho : o.op = .call { callee := .builtin .append, args := #[s, x], argTypes := #[t, tx] }) (e : TypeId) (z : Value) (bytes : Nat) {E : Enc α} (ht : P.underlying t = some (.slice e)) (hi : (P.info? e).map (fun i => (i.zero, i.size, i.bytes)) = some (some z, E.k, bytes))
    (hzs : z.cells.size = E.k) {F : Nat → Prop} {v : Value} {l l2 : List α} (own : Ow w F e E v l) {u : Value} {m : Nat} (hsr : Src P E.k tx u m (E.flat l2) w) (hm : m = l2.length) (hs : a.eval s = v) (hx : a.eval x = u)
    (h63 : l.length + m ≤ maxLen) (hbytes : (l.length + m) * bytes ≤ 140737488355328)
    (h : ∀ a' c' w', Ow w' (Nw F w w') e E (.slice a' (l.length + m) c') (l ++ l2) → Frm F w w' → wpList P ops Q rest (a.put o.dst (.slice a' (l.length + m) c')) w') : wpList P ops Q (o :: rest) a w := by
  refine wpList_plain hgd fun _ hK => ?_
  obtain ⟨a', c', w', hr, h2, h3⟩ := run_ap (P := P) w t tx o.type e z bytes ht hi hzs own hsr hm h63 hbytes
  unfold Oper.wp execOp
  simp only [ho, resolve, invoke, builtin, Sem.run_bind, Sem.run_pure, Result.andThen_ok, List.map_toArray, List.map_cons, List.map_nil, hs, hx, hr]
  exact hK _ _ (h a' c' w' h2 h3)

/-- A slice that came in, opened as a list. -/
theorem rdS_of {w : World} {t e : TypeId} {cs : List Value} {v : Value} {E : Enc α} (hv : v.cells.toList = cs) (hs : ∃ a n c, v = .slice a n c) (ht : P.underlying t = some (.slice e)) (hk : P.cellsOf e = E.k)
    (hR : ∀ cs, Rd P w e cs → ∃ x : α, E.f x = cs) (h : Rd P w t cs) : ∃ l, RdS w E v l ∧ l.length * P.bytesOf e ≤ reachBytes := by
  obtain ⟨a', n', c', rfl⟩ := hs
  have hvc : cs = [.slice a' n' c'] := by rw [← hv]; simp [Value.cells]
  rcases h.slice ht with rfl | ⟨a, n, c, rfl, hn, hc, hby, hel⟩
  · simp at hvc
    obtain ⟨rfl, rfl, rfl⟩ := hvc
    exact ⟨[], RdS.nil _ _, by simp⟩
  · simp at hvc
    obtain ⟨rfl, rfl, rfl⟩ := hvc
    rw [hk] at hel
    have hel' : ∀ i : Fin n, ∃ x : α, ∀ j, j < E.k → w.cell? ((a.add (i.1 * E.k)).add j) = some ((E.f x).getD j undef) := fun i => by
      obtain ⟨xs, h1, h2⟩ := hel i.1 i.2
      obtain ⟨x, hx⟩ := hR xs h2
      subst hx
      exact ⟨x, (cells_at h1).2⟩
    let f : Fin n → α := fun i => Classical.choose (hel' i)
    have hf : ∀ i : Fin n, ∀ j, j < E.k → w.cell? ((a.add (i.1 * E.k)).add j) = some ((E.f (f i)).getD j undef) := fun i => Classical.choose_spec (hel' i)
    have hlen : (List.ofFn f).length = n := by simp
    refine ⟨List.ofFn f, ⟨some a, c, by rw [hlen], by omega, hc, (by intro h; cases h), fun hl => ?_⟩, by rw [hlen]; exact Nat.le_trans (Nat.mul_le_mul_right _ hn) hby⟩
    rw [hlen] at hl
    obtain ⟨b, off, spot⟩ := a
    have hspot : spot = none := by
      have := World.cell?_spot (hf ⟨0, hl⟩ 0 E.pos)
      simpa [Addr.add] using this
    subst hspot
    refine ⟨b, off, rfl, fun m u hu => ?_⟩
    have hm := (List.getElem?_eq_some_iff.1 hu).1
    rw [E.flat_len, hlen] at hm
    have hk0 := E.pos
    have hi : m / E.k < n := (Nat.div_lt_iff_lt_mul hk0).2 hm
    have hj : m % E.k < E.k := Nat.mod_lt _ hk0
    have e : m / E.k * E.k + m % E.k = m := by rw [Nat.mul_comm]; exact Nat.div_add_mod m E.k
    have h1 := hf ⟨m / E.k, hi⟩ (m % E.k) hj
    rw [Addr.add_lit, Addr.add_lit, Nat.add_assoc, e] at h1
    rw [h1]
    rw [← e, E.flat_get (by rw [hlen]; exact hi) hj] at hu
    rw [List.getElem_ofFn] at hu
    simp [List.getD, hu]
end
theorem RdS.alloc {α : Type} {w : World} {E : Enc α} {v : Value} {l : List α} (h : RdS w E v l) (o : Obj) : RdS (w.alloc o) E v l := h.frm (Frm.alloc No w o) fun _ _ h => h
/-- What is new since a later world is new since an earlier one. -/
theorem Ow.new {α : Type} {w w0 w1 : World} {e : TypeId} {E : Enc α} {v : Value} {l : List α} (h : Ow w1 (Nw No w0 w1) e E v l) (_ : Frm No w0 w1) (hle : w.heap.size ≤ w0.heap.size) : Ow w1 (Nw No w w1) e E v l :=
  h.mono fun k _ hh => by
    rcases hh with hh | hh
    · exact hh.elim
    · exact .inr ⟨Nat.le_trans hle hh.1, hh.2⟩
/-- What was new stays new. -/
theorem Ow.later {α : Type} {w w1 w2 : World} {e : TypeId} {E : Enc α} {v : Value} {l : List α} (h : Ow w1 (Nw No w w1) e E v l) (f : Frm No w1 w2) : Ow w2 (Nw No w w2) e E v l :=
  (h.frm f fun _ _ h => h).mono fun k _ hh => by
    rcases hh with hh | hh
    · exact hh.elim
    · exact .inr ⟨hh.1, Nat.lt_of_lt_of_le hh.2 f.size⟩
theorem take_step {α : Type} {l l' : List α} {i : Nat} (h : i < l.length) (h' : i < l'.length) (hp : l.take i = l'.take i) (he : l[i] = l'[i]) : l.take (i + 1) = l'.take (i + 1) := by
  rw [List.take_succ_eq_append_getElem h, List.take_succ_eq_append_getElem h', hp, he]
theorem ne_at {α : Type} {l l' : List α} {i : Nat} (h : i < l.length) (h' : i < l'.length) {x y : α} (hx : Hid (x = l[i])) (hy : Hid (y = l'[i])) (hne : x ≠ y) : l ≠ l' := fun e => by
  subst e
  exact hne (hx.out.trans hy.out.symm)
theorem int_eq_of {x y : Int} (h : (x != y) = false) : x = y := by simpa using h
theorem int_ne_of {x y : Int} (h : (x != y) = true) : x ≠ y := by simpa using h
theorem str_eq_of {x y : ByteArray} (h : (!x.toList == y.toList) = false) : x = y := by
  have h : x.toList = y.toList := by simpa using h
  rw [ByteArray.toList_eq, ByteArray.toList_eq] at h
  exact ByteArray.ext (Array.toList_inj.1 h)
theorem str_ne_of {x y : ByteArray} (h : (!x.toList == y.toList) = true) : x ≠ y := fun e => by
  subst e
  simp at h
/-! A block of cells: its cells, none of them frozen. -/
theorem obj_cell {w : World} {b : Nat} {cs : Array Value} {t : Nat} {fz : Nat × Nat} (h : w.heap[b]? = some (.cells cs t fz)) (i : Nat) : w.cell? ⟨b, i, none⟩ = cs[i]? := by simp [World.cell?, h]
theorem obj_frz {w : World} {b : Nat} {cs : Array Value} {t : Nat} (h : w.heap[b]? = some (.cells cs t (0, 0))) (i : Nat) : w.frozen? ⟨b, i, none⟩ = false := by simp [World.frozen?, h]
/-! Frames: what is new may be written. -/
theorem Frm.al {F : Nat → Prop} {w w1 : World} (h : Frm F w w1) (o : Obj) : Frm F w (w1.alloc o) := h.trans (Frm.alloc F w1 o)
theorem Frm.st {F : Nat → Prop} {w w1 : World} (h : Frm F w w1) {b : Nat} (hb : w.heap.size ≤ b) (i : Nat) (u : Value) : Frm F w (w1.setCell ⟨b, i, none⟩ u) :=
  ⟨h.os, h.tape, h.output, by simpa using h.size, fun k hk hF => (Below.heap_setCell _ _ _ _ (by show k ≠ b; omega)).trans (h.block k hk hF)⟩
theorem Frm.dr {F : Nat → Prop} {w w1 : World} (h : Frm F w w1) (n : Nat) : Frm F w (w1.drewN n) := h.trans (Frm.drewN F w1 n)
theorem Frm.next {w w1 w2 : World} (h : Frm No w w1) (k : Frm No w1 w2) : Frm No w w2 := h.trans k
/-- A store into a block that is not the slice's own leaves it. -/
theorem Ow.st {α : Type} {w : World} {F : Nat → Prop} {e : TypeId} {E : Enc α} {v : Value} {l : List α} (h : Ow w F e E v l) {b : Nat} (hb : ¬ F b) (i : Nat) (u : Value) : Ow (w.setCell ⟨b, i, none⟩ u) F e E v l :=
  h.frm (G := fun k => k = b) (Frm.setCell w ⟨b, i, none⟩ u rfl) fun k hk e => hb (e ▸ hk)
theorem Ow.al {α : Type} {w : World} {F : Nat → Prop} {e : TypeId} {E : Enc α} {v : Value} {l : List α} (h : Ow w F e E v l) (o : Obj) : Ow (w.alloc o) F e E v l :=
  h.frm (G := No) (Frm.alloc No w o) fun _ _ h => h
theorem Ow.no {α : Type} {w w' : World} {F : Nat → Prop} {e : TypeId} {E : Enc α} {v : Value} {l : List α} (h : Ow w F e E v l) (f : Frm No w w') : Ow w' F e E v l := h.frm f fun _ _ h => h
theorem RdS.no {α : Type} {w w' : World} {E : Enc α} {v : Value} {l : List α} (h : RdS w E v l) (f : Frm No w w') : RdS w' E v l := h.frm f fun _ _ h => h
/-- What is new since a world of at least M blocks. -/
theorem Ow.from {α : Type} {w0 w1 : World} {e : TypeId} {E : Enc α} {v : Value} {l : List α} (h : Ow w1 (Nw No w0 w1) e E v l) (M : Nat) (hM : M ≤ w0.heap.size) : Ow w1 (fun k => M ≤ k) e E v l :=
  h.mono fun k _ hh => by
    rcases hh with hh | hh
    · exact hh.elim
    · exact Nat.le_trans hM hh.1
theorem Ow.fin {α : Type} {w w1 : World} {e : TypeId} {E : Enc α} {v : Value} {l : List α} {M : Nat} (h : Ow w1 (fun k => M ≤ k) e E v l) (hM : w.heap.size ≤ M) : Ow w1 (Nw No w w1) e E v l :=
  h.mono fun k hk hh => .inr ⟨Nat.le_trans hM hh, hk⟩
theorem al_old {w : World} {k : Nat} {o o' : Obj} (h : w.heap[k]? = some o) : (w.alloc o').heap[k]? = some o := (Below.heap_alloc w o' k (lt_of_block h)).trans h
theorem obj10 {w : World} {b : Nat} {c0 c1 c2 c3 c4 c5 c6 c7 c8 c9 : Value} {t : Nat} {fz : Nat × Nat} (h : w.heap[b]? = some (.cells #[c0, c1, c2, c3, c4, c5, c6, c7, c8, c9] t fz)) :
    w.cell? ⟨b, 0, none⟩ = some c0 ∧ w.cell? ⟨b, 1, none⟩ = some c1 ∧ w.cell? ⟨b, 2, none⟩ = some c2 ∧ w.cell? ⟨b, 3, none⟩ = some c3 ∧ w.cell? ⟨b, 4, none⟩ = some c4 ∧ w.cell? ⟨b, 5, none⟩ = some c5 ∧ w.cell? ⟨b, 6, none⟩ = some c6 ∧ w.cell? ⟨b, 7, none⟩ = some c7 ∧ w.cell? ⟨b, 8, none⟩ = some c8 ∧ w.cell? ⟨b, 9, none⟩ = some c9 :=
  ⟨obj_cell h 0, obj_cell h 1, obj_cell h 2, obj_cell h 3, obj_cell h 4, obj_cell h 5, obj_cell h 6, obj_cell h 7, obj_cell h 8, obj_cell h 9⟩
theorem Frm.sc {F : Nat → Prop} {w w1 : World} (h : Frm F w w1) {b : Nat} (hb : F b) (i : Nat) (u : Value) : Frm F w (w1.setCell ⟨b, i, none⟩ u) := h.trans (Frm.setCell w1 ⟨b, i, none⟩ u hb)
/-- A literal of one element. -/
theorem RdS.lit1 {α : Type} (w : World) (E : Enc α) (x : α) (t : TypeId) : RdS (w.alloc (.cells (E.f x).toArray t)) E (.slice (some ⟨w.heap.size, 0, none⟩) 1 1) [x] :=
  ⟨_, 1, rfl, Nat.le_refl _, by decide, (by intro h; cases h), fun _ => ⟨w.heap.size, 0, rfl, fun m u hu => by
    rw [E.flat_one] at hu
    rw [Nat.zero_add, World.cell?_alloc_new]
    simpa using hu⟩⟩
theorem RdS.litg {α : Type} (w : World) (E : Enc α) (x : α) (t : TypeId) {g : Nat} (hg : g = w.heap.size) : RdS (w.alloc (.cells (E.f x).toArray t)) E (.slice (some ⟨g, 0, none⟩) 1 1) [x] := by
  subst hg; exact RdS.lit1 w E x t
end Go.Tt

/- A whole struct stored into its block, in one step. No program in sight. -/
namespace Go.Tt
set_option linter.unusedVariables false
set_option linter.unusedSimpArgs false
open Go.RowKit Go.Lib
section
variable {P : Program}
theorem run_sto (w : World) {b : Nat} {cs : Array Value} {vs : List Value} {t : TypeId} (hB : w.heap[b]? = some (.cells cs t (0, 0))) (hi : (P.info? t).map (·.size) = some vs.length) (hl : cs.size = vs.length) (one : ∀ v ∈ vs, v.oneCell' = true) :
    (Instr.storeAt t (.pointer (some ⟨b, 0, none⟩)) (.agg vs.toArray)).run P w = .ok () (w.setRow b vs.toArray) := by
  obtain ⟨i, hi', hs⟩ := Option.map_eq_some_iff.1 hi
  have hst := run_storeCells_at P b 0 t vs 0 cs w hB (by omega) one
  have e : (cs.toList.take (0 + 0) ++ vs ++ cs.toList.drop (0 + 0 + vs.length)).toArray = vs.toArray := by
    rw [List.drop_of_length_le (by rw [Array.length_toList]; omega)]
    simp
  rw [e] at hst
  simp [Instr.storeAt, Instr.sureAddr, storeVar, sizeOf, typeInfo, hi', hs, Value.cells, hst]
theorem wpList_sto (w : World) {ops : Array Oper} {rest : List Oper} {o : Oper} {a : Act} {Q : Exit → Act → World → Prop} (hgd : o.guard = none) (p x : Operand) (t : TypeId) (ho : o.op = .store t p x)
    {b : Nat} {cs : Array Value} {vs : List Value} (hB : w.heap[b]? = some (.cells cs t (0, 0))) (hi : (P.info? t).map (·.size) = some vs.length) (hl : cs.size = vs.length) (one : ∀ v ∈ vs, v.oneCell' = true)
    (hp : a.eval p = .pointer (some ⟨b, 0, none⟩)) (hx : a.eval x = .agg vs.toArray)
    (h : ∀ w', w'.heap[b]? = some (.cells vs.toArray t (0, 0)) → Frm (fun k => k = b) w w' → w'.heap.size = w.heap.size → wpList P ops Q rest (a.put o.dst undef) w') : wpList P ops Q (o :: rest) a w := by
  refine wpList_plain hgd fun K hK => ?_
  have hr := run_sto (P := P) w hB hi hl one
  unfold Oper.wp
  simp [execOp, ho, hp, hx, hr, Result.andThen]
  exact hK _ _ (h _ (setRow_heap w b cs _ t _ hB) ⟨rfl, rfl, rfl, by simp, fun k _ hk => setRow_other w b k _ hk⟩ (by simp))
end
end Go.Tt

/- xs[k:] of what reads, in one step. No program in sight. -/
namespace Go.Tt
set_option linter.unusedVariables false
set_option linter.unusedSimpArgs false
open Go.RowKit Go.Lib
section
variable {P : Program} {α : Type}
theorem Enc.flat_drop (E : Enc α) (l : List α) (k : Nat) (hk : k ≤ l.length) : ∀ m u, (E.flat (l.drop k))[m]? = some u → (E.flat l)[k * E.k + m]? = some u := by
  intro m u hu
  have e : E.flat l = E.flat (l.take k) ++ E.flat (l.drop k) := by rw [← E.flat_append, List.take_append_drop]
  have hl : (E.flat (l.take k)).length = k * E.k := by rw [E.flat_len, List.length_take, Nat.min_eq_left hk]
  rw [e, List.getElem?_append_right (by omega), hl, Nat.add_sub_cancel_left]
  exact hu
theorem RdS_sliced {w : World} {E : Enc α} {a : Option Addr} {n c k : Nat} {l : List α} (h : RdS w E (.slice a n c) l) (hk : k ≤ n) : ∃ a' c', sliced a k n c E.k = .slice a' (n - k) c' ∧ RdS w E (.slice a' (n - k) c') (l.drop k) := by
  obtain ⟨a', c', h1, h2, h3, h4, h5⟩ := h
  simp only [Value.slice.injEq] at h1
  obtain ⟨rfl, rfl, rfl⟩ := h1
  refine ⟨_, _, rfl, _, _, by rw [List.length_drop], by rw [List.length_drop]; omega, by omega, ?_, ?_⟩
  · intro he
    by_cases hc : c = k
    · rw [List.length_drop]; omega
    · rw [if_neg hc] at he
      have : a = none := by simpa using he
      have := h4 this
      rw [List.length_drop]; omega
  · rw [List.length_drop]
    intro hpos
    obtain ⟨b, off, rfl, hcell⟩ := h5 (by omega)
    rw [if_neg (by omega)]
    refine ⟨b, off + k * E.k, by simp [Addr.add_lit], fun m u hu => ?_⟩
    rw [Nat.add_assoc]
    exact hcell _ u (E.flat_drop l k hk m u hu)
theorem wpList_from (w : World) {ops : Array Oper} {rest : List Oper} {o : Oper} {a : Act} {Q : Exit → Act → World → Prop} (hgd : o.guard = none) (x lo : Operand) (t e : TypeId) (ho : o.op = .slice t x (some lo) none none)
    {E : Enc α} (ht : P.underlying t = some (.slice e)) (he : P.elem t = e) (hi : (P.info? e).map (·.size) = some E.k) {s : Option Addr} {n c k : Nat} {l : List α} (h : RdS w E (.slice s n c) l) (hk : k ≤ n) (hx : a.eval x = .slice s n c) (hl : a.eval lo = .int .i64 k)
    (hK : ∀ a' c', RdS w E (.slice a' (n - k) c') (l.drop k) → wpList P ops Q rest (a.put o.dst (.slice a' (n - k) c')) w) : wpList P ops Q (o :: rest) a w := by
  refine wpList_plain hgd fun K hK' => ?_
  obtain ⟨a', c', e1, e2⟩ := RdS_sliced h hk
  obtain ⟨i, hi', hs⟩ := Option.map_eq_some_iff.1 hi
  subst he
  have hr : (Instr.sliceAt t (.slice s n c) (some (.int .i64 (k : Int))) none none).run P w = .ok (.slice a' (n - k) c') w := by
    rw [run_sliceAt_slice w t _ _ _ _ ht, run_slice_l w t s n c ht .i64 k (by omega) (by omega)]
    simp [sizeOf, typeInfo, hi', hs, e1]
  unfold Oper.wp
  simp [execOp, ho, hx, hl, hr, Result.andThen]
  exact hK' _ _ (hK a' c' e2)
end
end Go.Tt

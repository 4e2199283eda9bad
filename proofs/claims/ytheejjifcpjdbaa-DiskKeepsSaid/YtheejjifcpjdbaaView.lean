/- What came in, opened step by step: the reading of a cell list by its type. No program in sight. -/
import Derived.Test.YtheejjifcpjdbaaBase
import Derived.ProofKit
import Derived.TrodBlind
namespace Go.Tt
set_option linter.unusedVariables false
set_option linter.unusedSimpArgs false
open Go.RowKit Go.Lib

section
variable {P : Program} {w : World}

/-- A cell list reads as a datum of its type. -/
def Rd (P : Program) (w : World) (t : TypeId) (cs : List Value) : Prop := ∃ (fuel : Nat) (d : DataW Unit) (ps : List MemPlace), DataW.trod (fun _ => ()) P w 0 (fun _ => true) true fuel t cs = some (d, ps)

theorem rd_mapM {α β : Type} {f : α → Option β} : ∀ {l : List α} {r : List β}, l.mapM f = some r → ∀ x ∈ l, ∃ y, f x = some y := by
  intro l
  induction l with
  | nil => intro r _ x hx; cases hx
  | cons a l ih =>
    intro r h x hx
    simp only [List.mapM_cons, Option.bind_eq_bind, Option.bind_eq_some_iff] at h
    obtain ⟨y, hy, ys, hys, _⟩ := h
    rcases List.mem_cons.1 hx with rfl | hx
    · exact ⟨y, hy⟩
    · exact ih hys x hx

theorem Rd.bool {t : TypeId} {cs : List Value} (ht : P.underlying t = some .bool) (h : Rd P w t cs) : ∃ b, cs = [.bool b] := by
  obtain ⟨fuel, d, ps, h⟩ := h
  cases fuel with
  | zero => simp [DataW.trod] at h
  | succ f =>
    unfold DataW.trod at h
    rw [ht] at h
    match cs, h with
    | [.bool b], _ => exact ⟨b, rfl⟩
theorem Rd.int {t : TypeId} {k : IntKind} {cs : List Value} (ht : P.underlying t = some (.int k)) (h : Rd P w t cs) : ∃ n, cs = [.int k n] ∧ (Lit.int k n).wf = true := by
  obtain ⟨fuel, d, ps, h⟩ := h
  cases fuel with
  | zero => simp [DataW.trod] at h
  | succ f =>
    unfold DataW.trod at h
    rw [ht] at h
    match cs, h with
    | [.int k' n], h =>
      simp only at h
      split at h
      · next hk => obtain ⟨rfl, hk⟩ := hk; exact ⟨n, rfl, hk⟩
      · cases h
theorem Rd.string {t : TypeId} {cs : List Value} (ht : P.underlying t = some .string) (h : Rd P w t cs) : ∃ s, cs = [.string s] ∧ s.size ≤ maxLen := by
  obtain ⟨fuel, d, ps, h⟩ := h
  cases fuel with
  | zero => simp [DataW.trod] at h
  | succ f =>
    unfold DataW.trod at h
    rw [ht] at h
    match cs, h with
    | [.string s], h =>
      simp only at h
      split at h
      · next hk => exact ⟨s, rfl, hk⟩
      · cases h
theorem Rd.struct {t : TypeId} {fs : Array Field} {cs : List Value} (ht : P.underlying t = some (.struct fs)) (h : Rd P w t cs) :
    cs.length = P.cellsOf t ∧ ∀ f ∈ fs.toList, Rd P w f.type ((cs.drop f.offset).take (P.cellsOf f.type)) := by
  obtain ⟨fuel, d, ps, h⟩ := h
  cases fuel with
  | zero => simp [DataW.trod] at h
  | succ f =>
    unfold DataW.trod at h
    rw [ht] at h
    simp only at h
    split at h
    · next hl =>
      obtain ⟨r, hr, _⟩ := Option.map_eq_some_iff.1 h
      refine ⟨hl, fun x hx => ?_⟩
      obtain ⟨⟨y, q⟩, hy⟩ := rd_mapM hr x hx
      exact ⟨_, _, _, hy⟩
    · cases h
theorem Rd.array {t e : TypeId} {n : Nat} {cs : List Value} (ht : P.underlying t = some (.array n e)) (h : Rd P w t cs) :
    cs.length = P.cellsOf t ∧ ∀ i < n, Rd P w e ((cs.drop (i * P.cellsOf e)).take (P.cellsOf e)) := by
  obtain ⟨fuel, d, ps, h⟩ := h
  cases fuel with
  | zero => simp [DataW.trod] at h
  | succ f =>
    unfold DataW.trod at h
    rw [ht] at h
    simp only at h
    split at h
    · next hl =>
      obtain ⟨r, hr, _⟩ := Option.map_eq_some_iff.1 h
      refine ⟨hl, fun i hi => ?_⟩
      obtain ⟨⟨y, q⟩, hy⟩ := rd_mapM hr i (List.mem_range.2 hi)
      exact ⟨_, _, _, hy⟩
    · cases h
theorem Rd.slice {t e : TypeId} {cs : List Value} (ht : P.underlying t = some (.slice e)) (h : Rd P w t cs) :
    cs = [.slice none 0 0] ∨ ∃ a n c, cs = [.slice (some a) n c] ∧ n ≤ c ∧ c ≤ maxLen ∧ ∀ i < n, ∃ xs, w.cells? 0 (a.add (i * P.cellsOf e)) (P.cellsOf e) = some xs ∧ Rd P w e xs := by
  obtain ⟨fuel, d, ps, h⟩ := h
  cases fuel with
  | zero => simp [DataW.trod] at h
  | succ f =>
    unfold DataW.trod at h
    rw [ht] at h
    match cs, h with
    | [.slice none 0 0], _ => exact .inl rfl
    | [.slice (some a) n c], h =>
      simp only at h
      split at h
      · next hk =>
        obtain ⟨els, he, _⟩ := Option.bind_eq_some_iff.1 h
        refine .inr ⟨a, n, c, rfl, hk.2.1, hk.2.2, fun i hi => ?_⟩
        obtain ⟨⟨y, q⟩, hy⟩ := rd_mapM he i (List.mem_range.2 hi)
        obtain ⟨xs, hx, hz⟩ := Option.bind_eq_some_iff.1 hy
        exact ⟨xs, hx, _, _, _, hz⟩
      · cases h
theorem Rd.pointer {t e : TypeId} {cs : List Value} (ht : P.underlying t = some (.pointer e)) (h : Rd P w t cs) :
    cs = [.pointer none] ∨ ∃ a xs, cs = [.pointer (some a)] ∧ w.cells? 0 a (P.cellsOf e) = some xs ∧ Rd P w e xs := by
  obtain ⟨fuel, d, ps, h⟩ := h
  cases fuel with
  | zero => simp [DataW.trod] at h
  | succ f =>
    unfold DataW.trod at h
    rw [ht] at h
    match cs, h with
    | [.pointer none], _ => exact .inl rfl
    | [.pointer (some a)], h =>
      simp only at h
      obtain ⟨⟨y, q⟩, hy, _⟩ := Option.map_eq_some_iff.1 h
      obtain ⟨xs, hx, hz⟩ := Option.bind_eq_some_iff.1 hy
      exact .inr ⟨a, xs, rfl, hx, _, _, _, hz⟩

theorem rd_of_trod {H : Type} {enc : TypeId × Value → H} {t : TypeId} {v : Value} {d : DataW H} {ps : List MemPlace} (h : DataW.Trod enc P w 0 (fun _ => true) true t v d ps) : Rd P w t v.cells.toList := by
  obtain ⟨fuel, h⟩ := h
  have := TrodBlind.trod_relabel (fun _ => ()) enc (P := P) (w := w) (base := 0) (sp := fun _ => true) (held := true) fuel t v.cells.toList
  refine ⟨fuel, (d.relabel fun _ => ()), ps, ?_⟩
  rw [show (fun _ => ()) = ((fun _ => ()) ∘ enc : TypeId × Value → Unit) from rfl, this, h]
  rfl

theorem cells_at {a : Addr} {k : Nat} {xs : List Value} (h : w.cells? 0 a k = some xs) : xs.length = k ∧ ∀ j < k, w.cell? (a.add j) = some (xs.getD j undef) := by
  unfold World.cells? at h
  rw [if_pos (Nat.zero_le _)] at h
  have key : ∀ (l : List Nat) (r : List Value), l.mapM (fun i => w.cell? (a.add i)) = some r → r.length = l.length ∧ ∀ j (hj : j < l.length), w.cell? (a.add l[j]) = some (r.getD j undef) := by
    intro l
    induction l with
    | nil => intro r hr; simp at hr; subst hr; exact ⟨rfl, fun j hj => by simp at hj⟩
    | cons x l ih =>
      intro r hr
      simp only [List.mapM_cons, Option.bind_eq_bind, Option.bind_eq_some_iff] at hr
      obtain ⟨y, hy, ys, hys, e⟩ := hr
      obtain rfl : y :: ys = r := Option.some.inj e
      obtain ⟨h1, h2⟩ := ih ys hys
      refine ⟨by simp [h1], fun j hj => ?_⟩
      cases j with
      | zero => simpa using hy
      | succ j => simpa using h2 j (by simpa using hj)
  obtain ⟨h1, h2⟩ := key _ _ h
  refine ⟨by simpa using h1, fun j hj => ?_⟩
  have := h2 j (by simpa using hj)
  rwa [List.getElem_range] at this

/-- A slice value that reads as a list, each element's cells told by R. -/
def SlE {α : Type} (w : World) (k : Nat) (v : Value) (xs : List α) (R : α → List Value → Prop) : Prop :=
  ∃ a c, v = .slice a xs.length c ∧ xs.length ≤ c ∧ c ≤ maxLen ∧ (a = none → xs.length = 0 ∧ c = 0) ∧
    ∀ i (h : i < xs.length), ∃ b off cs, a = some ⟨b, off, none⟩ ∧ R xs[i] cs ∧ cs.length = k ∧ ∀ j, j < k → w.cell? ⟨b, off + (i * k + j), none⟩ = some (cs.getD j undef)

theorem SlE.mono {α : Type} {k : Nat} {v : Value} {xs : List α} {R : α → List Value → Prop} {w' : World} (h : SlE w k v xs R) (hw : ∀ p : Addr, p.block < w.heap.size → w'.cell? p = w.cell? p) : SlE w' k v xs R := by
  obtain ⟨a, c, h1, h2, h3, h4, h5⟩ := h
  refine ⟨a, c, h1, h2, h3, h4, fun i hi => ?_⟩
  obtain ⟨b, off, cs, e1, e2, e3, e4⟩ := h5 i hi
  refine ⟨b, off, cs, e1, e2, e3, fun j hj => ?_⟩
  rw [hw _ (World.block_lt_of_cell? _ _ (e4 j hj))]
  exact e4 j hj

theorem slE_of {α : Type} {t e : TypeId} {k : Nat} {cs : List Value} {v : Value} {R : α → List Value → Prop} (hv : v.cells.toList = cs) (hs : ∃ a n c, v = .slice a n c) (ht : P.underlying t = some (.slice e)) (hk : P.cellsOf e = k) (hk0 : 0 < k)
    (hR : ∀ cs, Rd P w e cs → ∃ x : α, R x cs) (h : Rd P w t cs) : ∃ xs, SlE w k v xs R := by
  obtain ⟨a', n', c', rfl⟩ := hs
  have hvc : cs = [.slice a' n' c'] := by rw [← hv]; simp [Value.cells]
  rcases h.slice ht with rfl | ⟨a, n, c, rfl, hn, hc, hel⟩
  · simp at hvc
    obtain ⟨rfl, rfl, rfl⟩ := hvc
    exact ⟨[], none, 0, rfl, Nat.le_refl _, Nat.zero_le _, fun _ => ⟨rfl, rfl⟩, fun i hi => by simp at hi⟩
  · simp at hvc
    obtain ⟨rfl, rfl, rfl⟩ := hvc
    rw [hk] at hel
    have hel' : ∀ i : Fin n, ∃ p : α × List Value, R p.1 p.2 ∧ p.2.length = k ∧ ∀ j, j < k → w.cell? ((a.add (i.1 * k)).add j) = some (p.2.getD j undef) := fun i => by
      obtain ⟨xs, h1, h2⟩ := hel i.1 i.2
      obtain ⟨x, hx⟩ := hR xs h2
      obtain ⟨h3, h4⟩ := cells_at h1
      exact ⟨(x, xs), hx, h3, h4⟩
    let f : Fin n → α × List Value := fun i => Classical.choose (hel' i)
    have hf : ∀ i, R (f i).1 (f i).2 ∧ (f i).2.length = k ∧ ∀ j, j < k → w.cell? ((a.add (i.1 * k)).add j) = some ((f i).2.getD j undef) := fun i => Classical.choose_spec (hel' i)
    refine ⟨List.ofFn fun i => (f i).1, some a, c, by simp, by simpa using hn, hc, (by intro h; cases h), fun i hi => ?_⟩
    have hi' : i < n := by simpa using hi
    obtain ⟨e1, e2, e3⟩ := hf ⟨i, hi'⟩
    obtain ⟨b, off, spot⟩ := a
    have hspot : spot = none := by
      obtain ⟨_, _, z3⟩ := hf ⟨0, by omega⟩
      have := World.cell?_spot (z3 0 hk0)
      simpa [Addr.add] using this
    subst hspot
    refine ⟨b, off, (f ⟨i, hi'⟩).2, rfl, by simpa using e1, e2, fun j hj => ?_⟩
    have := e3 j hj
    rw [Addr.add_lit, Addr.add_lit, Nat.add_assoc] at this
    exact this
end
theorem SlE.sh {α : Type} {w : World} {k : Nat} {v : Value} {xs : List α} {R : α → List Value → Prop} (h : SlE w k v xs R) : ∃ a c, v = .slice a xs.length c := by
  obtain ⟨a, c, h, _⟩ := h; exact ⟨a, c, h⟩
theorem SlE.facts {α : Type} {w : World} {k : Nat} {a : Option Addr} {n c : Nat} {xs : List α} {R : α → List Value → Prop} (h : SlE w k (.slice a n c) xs R) : n = xs.length ∧ n ≤ c ∧ c ≤ maxLen ∧ (a = none → n = 0 ∧ c = 0) ∧
    ∀ i (h : i < xs.length), ∃ b off cs, a = some ⟨b, off, none⟩ ∧ R xs[i] cs ∧ cs.length = k ∧ ∀ j, j < k → w.cell? ⟨b, off + (i * k + j), none⟩ = some (cs.getD j undef) := by
  obtain ⟨a', c', h1, h2, h3, h4, h5⟩ := h
  simp only [Value.slice.injEq] at h1
  obtain ⟨rfl, rfl, rfl⟩ := h1
  exact ⟨rfl, h2, h3, h4, h5⟩
theorem mask_nat (m : Nat) (n b : Int) (h : b = n % (m + 1 : Nat)) : ∃ a : Nat, b = (a : Int) ∧ a ≤ m := ⟨b.toNat, by have := Int.emod_nonneg n (b := ((m + 1 : Nat) : Int)) (by omega); omega, by have := Int.emod_lt_of_pos n (b := ((m + 1 : Nat) : Int)) (by omega); omega⟩
end Go.Tt

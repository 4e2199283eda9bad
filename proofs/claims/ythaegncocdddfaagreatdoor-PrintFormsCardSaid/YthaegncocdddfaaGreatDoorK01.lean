/- Merged: View2. -/
import Derived.ProofKit
import Derived.SizedLaws
import Derived.Test.YthaegncocdddfaaGreatDoorK00
/- What came in, opened step by step: the reading of a cell list by its type. No program in sight. -/
namespace Go.Tt
set_option linter.unusedVariables false
set_option linter.unusedSimpArgs false
set_option linter.unusedVariables false
set_option linter.unusedSimpArgs false
open Go.RowKit Go.Lib

section
variable {P : Program} {w : World}

/-- A cell list reads as a datum of its type, within the reach. -/
def Rd (P : Program) (w : World) (t : TypeId) (cs : List Value) : Prop :=
  ∃ (H : Type) (enc : TypeId × Value → H) (fuel : Nat) (d : DataW H) (ps : List MemPlace), DataW.trod enc P w 0 (fun _ => true) true fuel t cs = some (d, ps) ∧ ∀ n ∈ d.weights P t, n ≤ reachBytes

theorem rd_mapM {α β : Type} {f : α → Option β} : ∀ {l : List α} {r : List β}, l.mapM f = some r → r.length = l.length ∧ ∀ i (hi : i < l.length), ∃ y, r[i]? = some y ∧ f l[i] = some y := by
  intro l
  induction l with
  | nil => intro r h; simp at h; subst h; exact ⟨rfl, fun i hi => by simp at hi⟩
  | cons a l ih =>
    intro r h
    simp only [List.mapM_cons, Option.bind_eq_bind, Option.bind_eq_some_iff] at h
    obtain ⟨y, hy, ys, hys, e⟩ := h
    obtain rfl : y :: ys = r := Option.some.inj e
    obtain ⟨h1, h2⟩ := ih hys
    refine ⟨by simp [h1], fun i hi => ?_⟩
    cases i with
    | zero => exact ⟨y, rfl, hy⟩
    | succ i => exact h2 i (by simpa using hi)
theorem weightsAll_mem {H : Type} {e : TypeId} {d : DataW H} {n : Nat} (hn : n ∈ d.weights P e) : ∀ {ds : List (DataW H)} {i : Nat}, ds[i]? = some d → n ∈ DataW.weightsAll P e ds
  | [], i, h => by simp at h
  | x :: r, 0, h => by
    simp at h; subst h
    simp only [DataW.weightsAll, List.mem_append]; exact .inl hn
  | x :: r, i + 1, h => by
    simp only [DataW.weightsAll, List.mem_append]; exact .inr (weightsAll_mem hn (by simpa using h))

theorem Rd.bool {t : TypeId} {cs : List Value} (ht : P.underlying t = some .bool) (h : Rd P w t cs) : ∃ b, cs = [.bool b] := by
  obtain ⟨H, enc, fuel, d, ps, h, hw⟩ := h
  cases fuel with
  | zero => simp [DataW.trod] at h
  | succ f =>
    unfold DataW.trod at h
    rw [ht] at h
    match cs, h with
    | [.bool b], _ => exact ⟨b, rfl⟩
theorem Rd.int {t : TypeId} {k : IntKind} {cs : List Value} (ht : P.underlying t = some (.int k)) (h : Rd P w t cs) : ∃ n, cs = [.int k n] ∧ (Lit.int k n).wf = true := by
  obtain ⟨H, enc, fuel, d, ps, h, hw⟩ := h
  cases fuel with
  | zero => simp [DataW.trod] at h
  | succ f =>
    unfold DataW.trod at h
    rw [ht] at h
    match cs, h with
    | [.int k' n], h =>
      simp only at h
      split at h
      · next hk => obtain ⟨rfl, hk⟩ := hk; exact ⟨n, rfl, hk⟩
      · cases h
theorem Rd.string {t : TypeId} {cs : List Value} (ht : P.underlying t = some .string) (h : Rd P w t cs) : ∃ s, cs = [.string s] ∧ s.size ≤ reachBytes := by
  obtain ⟨H, enc, fuel, d, ps, h, hw⟩ := h
  cases fuel with
  | zero => simp [DataW.trod] at h
  | succ f =>
    unfold DataW.trod at h
    rw [ht] at h
    match cs, h with
    | [.string s], h =>
      simp only at h
      split at h
      · next hk =>
        simp only [Option.some.injEq, Prod.mk.injEq] at h
        obtain ⟨rfl, rfl⟩ := h
        refine ⟨s, rfl, ?_⟩
        have := hw s.data.toList.length (by simp [DataW.weights])
        rwa [Array.length_toList] at this
      · cases h
theorem Rd.struct {t : TypeId} {fs : Array Field} {cs : List Value} (ht : P.underlying t = some (.struct fs)) (h : Rd P w t cs) :
    cs.length = P.cellsOf t ∧ ∀ f ∈ fs.toList, Rd P w f.type ((cs.drop f.offset).take (P.cellsOf f.type)) := by
  obtain ⟨H, enc, fuel, d, ps, h, hw⟩ := h
  cases fuel with
  | zero => simp [DataW.trod] at h
  | succ f =>
    unfold DataW.trod at h
    rw [ht] at h
    simp only at h
    split at h
    · next hl =>
      obtain ⟨r, hr, he⟩ := Option.map_eq_some_iff.1 h
      simp only [Prod.mk.injEq] at he
      obtain ⟨rfl, _⟩ := he
      refine ⟨hl, fun x hx => ?_⟩
      obtain ⟨i, hi, rfl⟩ := List.getElem_of_mem hx
      obtain ⟨⟨y, q⟩, hy1, hy2⟩ := (rd_mapM hr).2 i hi
      refine ⟨H, enc, _, y, q, hy2, fun n hn => hw n ?_⟩
      simp only [DataW.weights, ht]
      exact DataW.weights_mem_each (j := i) (by simp [List.getElem?_eq_getElem hi]) (by simp [hy1]) n hn
    · cases h
theorem Rd.array {t e : TypeId} {n : Nat} {cs : List Value} (ht : P.underlying t = some (.array n e)) (h : Rd P w t cs) :
    cs.length = P.cellsOf t ∧ ∀ i < n, Rd P w e ((cs.drop (i * P.cellsOf e)).take (P.cellsOf e)) := by
  obtain ⟨H, enc, fuel, d, ps, h, hw⟩ := h
  cases fuel with
  | zero => simp [DataW.trod] at h
  | succ f =>
    unfold DataW.trod at h
    rw [ht] at h
    simp only at h
    split at h
    · next hl =>
      obtain ⟨r, hr, he⟩ := Option.map_eq_some_iff.1 h
      simp only [Prod.mk.injEq] at he
      obtain ⟨rfl, _⟩ := he
      refine ⟨hl, fun i hi => ?_⟩
      obtain ⟨⟨y, q⟩, hy1, hy2⟩ := (rd_mapM hr).2 i (by simpa using hi)
      refine ⟨H, enc, _, y, q, by simpa using hy2, fun n hn => hw n ?_⟩
      simp only [DataW.weights, ht]
      exact weightsAll_mem hn (i := i) (by simp [hy1])
    · cases h
theorem Rd.slice {t e : TypeId} {cs : List Value} (ht : P.underlying t = some (.slice e)) (h : Rd P w t cs) :
    cs = [.slice none 0 0] ∨ ∃ a n c, cs = [.slice (some a) n c] ∧ n ≤ c ∧ c ≤ maxLen ∧ c * P.bytesOf e ≤ reachBytes ∧ ∀ i < n, ∃ xs, w.cells? 0 (a.add (i * P.cellsOf e)) (P.cellsOf e) = some xs ∧ Rd P w e xs := by
  obtain ⟨H, enc, fuel, d, ps, h, hw⟩ := h
  cases fuel with
  | zero => simp [DataW.trod] at h
  | succ f =>
    unfold DataW.trod at h
    rw [ht] at h
    match cs, h with
    | [.slice none 0 0], _ => exact .inl rfl
    | [.slice (some a) n c], h =>
      simp only at h
      split at h
      · next hk =>
        obtain ⟨els, he, h⟩ := Option.bind_eq_some_iff.1 h
        rw [if_true] at h
        obtain ⟨rest, hrest, h⟩ := Option.map_eq_some_iff.1 h
        simp only [Prod.mk.injEq] at h
        obtain ⟨rfl, _⟩ := h
        have l1 := (rd_mapM he).1
        have l2 := (rd_mapM hrest).1
        simp only [List.length_range] at l1 l2
        have hbytes : c * P.bytesOf e ≤ reachBytes := by
          have := hw ((els.length + rest.length) * P.bytesOf e) (by simp [DataW.weights, ht])
          rwa [l1, l2, Nat.add_sub_cancel' hk.2.1] at this
        refine .inr ⟨a, n, c, rfl, hk.2.1, hk.2.2, hbytes, fun i hi => ?_⟩
        obtain ⟨⟨y, q⟩, hy1, hy2⟩ := (rd_mapM he).2 i (by simpa using hi)
        rw [List.getElem_range] at hy2
        obtain ⟨xs, hx, hz⟩ := Option.bind_eq_some_iff.1 hy2
        refine ⟨xs, hx, H, enc, _, y, q, hz, fun m hm => hw m ?_⟩
        simp only [DataW.weights, ht, List.mem_cons, List.mem_append]
        exact .inr (.inl (weightsAll_mem hm (i := i) (by simp [hy1])))
      · cases h
theorem Rd.pointer {t e : TypeId} {cs : List Value} (ht : P.underlying t = some (.pointer e)) (h : Rd P w t cs) :
    cs = [.pointer none] ∨ ∃ a xs, cs = [.pointer (some a)] ∧ w.cells? 0 a (P.cellsOf e) = some xs ∧ Rd P w e xs := by
  obtain ⟨H, enc, fuel, d, ps, h, hw⟩ := h
  cases fuel with
  | zero => simp [DataW.trod] at h
  | succ f =>
    unfold DataW.trod at h
    rw [ht] at h
    match cs, h with
    | [.pointer none], _ => exact .inl rfl
    | [.pointer (some a)], h =>
      simp only at h
      obtain ⟨⟨y, q⟩, hy, he⟩ := Option.map_eq_some_iff.1 h
      simp only [Prod.mk.injEq] at he
      obtain ⟨rfl, _⟩ := he
      obtain ⟨xs, hx, hz⟩ := Option.bind_eq_some_iff.1 hy
      exact .inr ⟨a, xs, rfl, hx, H, enc, _, y, q, hz, fun n hn => hw n (by simpa [DataW.weights, ht] using hn)⟩

/-- An argument of the row, with the row's reach. -/
theorem rd_of_trod {H : Type} {enc : TypeId × Value → H} {ts : List TypeId} {ds : List (DataW H)} {j : Nat} {t : TypeId} {v : Value} {d : DataW H} {ps : List MemPlace} (h : DataW.Trod enc P w 0 (fun _ => true) true t v d ps)
    (hsz : (DataW.weightsEach P ts ds).all (· ≤ reachBytes) = true) (ht : ts[j]? = some t) (hd : ds[j]? = some d) : Rd P w t v.cells.toList := by
  obtain ⟨fuel, h⟩ := h
  exact ⟨H, enc, fuel, d, ps, h, fun n hn => by simpa using List.all_eq_true.1 hsz n (DataW.weights_mem_each ht hd n hn)⟩

theorem cells_at {a : Addr} {k : Nat} {xs : List Value} (h : w.cells? 0 a k = some xs) : xs.length = k ∧ ∀ j < k, w.cell? (a.add j) = some (xs.getD j undef) := by
  unfold World.cells? at h
  rw [if_pos (Nat.zero_le _)] at h
  have key : ∀ (l : List Nat) (r : List Value), l.mapM (fun i => w.cell? (a.add i)) = some r → r.length = l.length ∧ ∀ j (hj : j < l.length), w.cell? (a.add l[j]) = some (r.getD j undef) := by
    intro l
    induction l with
    | nil => intro r hr; simp at hr; subst hr; exact ⟨rfl, fun j hj => by simp at hj⟩
    | cons x l ih =>
      intro r hr
      simp only [List.mapM_cons, Option.bind_eq_bind, Option.bind_eq_some_iff] at hr
      obtain ⟨y, hy, ys, hys, e⟩ := hr
      obtain rfl : y :: ys = r := Option.some.inj e
      obtain ⟨h1, h2⟩ := ih ys hys
      refine ⟨by simp [h1], fun j hj => ?_⟩
      cases j with
      | zero => simpa using hy
      | succ j => simpa using h2 j (by simpa using hj)
  obtain ⟨h1, h2⟩ := key _ _ h
  refine ⟨by simpa using h1, fun j hj => ?_⟩
  have := h2 j (by simpa using hj)
  rwa [List.getElem_range] at this

end
theorem mask_nat (m : Nat) (n b : Int) (h : b = n % (m + 1 : Nat)) : ∃ a : Nat, b = (a : Int) ∧ a ≤ m := ⟨b.toNat, by have := Int.emod_nonneg n (b := ((m + 1 : Nat) : Int)) (by omega); omega, by have := Int.emod_lt_of_pos n (b := ((m + 1 : Nat) : Int)) (by omega); omega⟩
end Go.Tt

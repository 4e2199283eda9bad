/- Merged: CellM2 MapD. -/
import Derived.Maps.OwnOps
import Derived.Test.YtgpdpalhkkjmiaaGreatDoorV14
import Derived.Test.YtgpdpalhkkjmiaaGreatDoorV25
/- Layer 12: may a set's entries be? -/
namespace Go.Proofs.YtgpdpalhkkjmiaaGreatDoor
set_option linter.unusedVariables false
set_option linter.unusedSimpArgs false
set_option linter.unusedVariables false
set_option linter.unusedSimpArgs false
open Go.RowKit Go.Lib Go.Tt Go.Shelf
def eDot (x : En) : Dt := (x.1, x.2.1)
abbrev En0 : En := (0, 0, ⟨#[]⟩)
/-- The first k entries may be, in their row. -/
def entsRow (c : CellV) (k : Nat) : Prop := ∀ j, j < k → vHas c.seen (eDot (c.ents.getD j En0)) = true ∧ (c.ents.getD j En0).2.2.size ≤ 256 ∧ (0 < j → dotLess (eDot (c.ents.getD (j - 1) En0)) (eDot (c.ents.getD j En0)) = true)
instance (c : CellV) (k : Nat) : Decidable (entsRow c k) := by unfold entsRow; infer_instance
def entsMay (c : CellV) : Bool := decide (entsRow c c.ents.length)
theorem entsRow_step {c : CellV} {k : Nat} (h : entsRow c k) (h1 : vHas c.seen (eDot (c.ents.getD k En0)) = true) (h2 : (c.ents.getD k En0).2.2.size ≤ 256) (h3 : 0 < k → dotLess (eDot (c.ents.getD (k - 1) En0)) (eDot (c.ents.getD k En0)) = true) : entsRow c (k + 1) := fun j hj => by
  rcases Nat.lt_or_ge j k with h4 | h4
  · exact h j h4
  · obtain rfl : j = k := by omega
    exact ⟨h1, h2, h3⟩
end Go.Proofs.YtgpdpalhkkjmiaaGreatDoor

/- A map of dots that a call has made: asked, written. -/
namespace Go.Proofs.YtgpdpalhkkjmiaaGreatDoor
set_option linter.unusedVariables false
set_option linter.unusedSimpArgs false
open Go.RowKit Go.Lib Go.Tt
/-- A dot as a value. -/
def dv (d : Dt) : Value := .agg #[.int .i64 d.1, .int .i64 d.2]
set_option maxRecDepth 100000 in
theorem dotEq (a b : Dt) (w : World) : (Op.equal 83 (dv a) (dv b)).run Tryz.prog w = .ok (decide (a = b)) w := by
  unfold Op.equal Op.maxDepth dv
  rw [show (10000 : Nat) = 9999 + 1 from rfl]
  go_simp
  by_cases h1 : a.1 = b.1
  · by_cases h2 : a.2 = b.2
    · rw [if_pos h1, if_pos h2, decide_eq_true (Prod.ext h1 h2)]
    · rw [if_pos h1, if_neg h2, decide_eq_false fun e => h2 (by rw [e])]
  · rw [if_neg h1, decide_eq_false fun e => h1 (by rw [e])]
set_option maxRecDepth 100000 in
theorem dotChk (a : Dt) (em : Bool) (d : Nat) (w : World) : (Instr.checkKey em (d + 1 + 1) 83 (dv a)).run Tryz.prog w = .ok () w := by
  unfold dv
  rw [Instr.checkKey]
  go_simp
  simp only [Instr.checkKey]
  go_simp
theorem asking (d : Dt) (w : World) : ∀ (es : List MapEntry) (ds : List Dt) (i : Nat), es.map (·.key) = ds.map dv → (∀ e ∈ es, e.val = .bool true) →
    (d ∉ ds ∧ (Instr.findAsking 83 (dv d) es i).run Tryz.prog w = .ok none w) ∨ (d ∈ ds ∧ ∃ j, (Instr.findAsking 83 (dv d) es i).run Tryz.prog w = .ok (some (j, .bool true)) w) := by
  intro es
  induction es with
  | nil =>
    intro ds i h _
    obtain rfl : ds = [] := by simpa using h.symm
    exact .inl ⟨by simp, rfl⟩
  | cons e es ih =>
    intro ds i h hv
    cases ds with
    | nil => simp at h
    | cons x ds =>
      simp only [List.map_cons, List.cons.injEq] at h
      rw [Instr.findAsking]
      by_cases hx : d = x
      · refine .inr ⟨by rw [hx]; exact List.mem_cons_self, i, ?_⟩
        simp only [Sem.run_bind, h.1, dotEq, decide_eq_true hx, Result.andThen_ok, if_true, hv e List.mem_cons_self]
        rfl
      · rcases ih ds (i + 1) h.2 (fun e he => hv e (List.mem_cons_of_mem _ he)) with ⟨h1, h2⟩ | ⟨h1, j, h2⟩
        · refine .inl ⟨by simp [hx, h1], ?_⟩
          simp only [Sem.run_bind, h.1, dotEq, decide_eq_false hx, Result.andThen_ok]
          simpa using h2
        · refine .inr ⟨List.mem_cons_of_mem _ h1, j, ?_⟩
          simp only [Sem.run_bind, h.1, dotEq, decide_eq_false hx, Result.andThen_ok]
          simpa using h2
theorem finding (d : Dt) (w : World) (es : List MapEntry) (ds : List Dt) (h : es.map (·.key) = ds.map dv) (hv : ∀ e ∈ es, e.val = .bool true) :
    (d ∉ ds ∧ (Instr.findKey 83 (dv d) es).run Tryz.prog w = .ok none w) ∨ (d ∈ ds ∧ ∃ j, (Instr.findKey 83 (dv d) es).run Tryz.prog w = .ok (some (j, .bool true)) w) := by
  have ha := asking d w es ds 0 h hv
  cases es with
  | nil =>
    obtain rfl : ds = [] := by simpa using h.symm
    refine .inl ⟨by simp, ?_⟩
    simp [Instr.findKey, Instr.findNow, run_underlying Tryz.underlying83]
  | cons e es =>
    have hn : (Instr.findKey 83 (dv d) (e :: es)).run Tryz.prog w = (Instr.findAsking 83 (dv d) (e :: es)).run Tryz.prog w := by
      simp [Instr.findKey, Instr.findNow, Instr.sameNow, run_underlying Tryz.underlying83]
    rw [hn]
    exact ha
/-- Block m is a map that holds just these dots, each with true. -/
def SeenM (w : World) (m : Nat) (ds : List Dt) : Prop := ∃ es clock, w.heap[m]? = some (.map es clock) ∧ es.toList.map (·.key) = ds.map dv ∧ ∀ e ∈ es.toList, e.val = .bool true
theorem SeenM.made (w : World) : SeenM (w.alloc (.map #[] 0)) w.heap.size [] := ⟨#[], 0, heap_alloc_new w _, rfl, fun e h => by simp at h⟩
theorem SeenM.no {w w' : World} {m : Nat} {ds : List Dt} (h : SeenM w m ds) (f : Frm No w w') : SeenM w' m ds := by
  obtain ⟨es, c, h1, h2, h3⟩ := h
  exact ⟨es, c, f.obj h1 id, h2, h3⟩
theorem dotChk' (d : Dt) (em : Bool) (w : World) : (Instr.checkKey em 10000 83 (dv d)).run Tryz.prog w = .ok () w := dotChk d em 9998 w
end Go.Proofs.YtgpdpalhkkjmiaaGreatDoor

/- Merged: Plan. -/
import Derived.Orders
import Derived.Tactics
import Derived.Laws.Sem
/- A region that draws its order, walked in ONE order, first part: operations that leave the world alone. -/
namespace Go.Tt
set_option linter.unusedVariables false
set_option linter.unusedSimpArgs false
set_option linter.unusedVariables false
set_option linter.unusedSimpArgs false

def SConst {α : Type} (P : Program) (s : Sem α) : Prop := ∀ w x w', s.run P w = .ok x w' → w' = w ∧ ∀ w2, s.run P w2 = .ok x w2
def SKeep {α : Type} (P : Program) (s : Sem α) : Prop := ∀ w x w', s.run P w = .ok x w' → w' = w

/-- A type of which 'len' reads no memory. -/
def lenTy (P : Program) (t : TypeId) : Bool := match P.underlying t with | some .string => true | some (.slice _) => true | _ => false

section
variable {P : Program} {α β : Type}
theorem sc_keep {s : Sem α} (h : SConst P s) : SKeep P s := fun w x w' hr => (h w x w' hr).1
theorem sc_pure (x : α) : SConst P (pure x : Sem α) := fun w y w' h => by
  simp at h
  obtain ⟨rfl, rfl⟩ := h
  exact ⟨rfl, fun w2 => by simp⟩
theorem sc_halt (h : Halt) : SConst P (Sem.halt h : Sem α) := fun w y w' hr => by simp [Sem.run] at hr
theorem sc_stuck (s : String) : SConst P (stuck s : Sem α) := sc_halt _
theorem sc_unsupported (u : Unsupported) : SConst P (unsupported u : Sem α) := sc_halt _
theorem andThen_ok_inv {γ : Type} {r : Result γ} {f : γ → World → Result β} {y : β} {w' : World} (h : r.andThen f = .ok y w') : ∃ x w1, r = .ok x w1 ∧ f x w1 = .ok y w' := by
  cases r with
  | ok x w1 => exact ⟨x, w1, rfl, h⟩
  | halt x w1 => simp [Result.andThen] at h
theorem sc_bind {s : Sem α} {f : α → Sem β} (h : SConst P s) (hf : ∀ x, SConst P (f x)) : SConst P (s >>= f) := fun w y w' hr => by
  rw [Sem.run_bind] at hr
  obtain ⟨x, w1, h1, h2⟩ := andThen_ok_inv hr
  obtain ⟨rfl, h3⟩ := h w x w1 h1
  obtain ⟨rfl, h4⟩ := hf x _ y w' h2
  exact ⟨rfl, fun w2 => by rw [Sem.run_bind, h3 w2]; exact h4 w2⟩
theorem sk_bind {s : Sem α} {f : α → Sem β} (h : SKeep P s) (hf : ∀ x, SKeep P (f x)) : SKeep P (s >>= f) := fun w y w' hr => by
  rw [Sem.run_bind] at hr
  obtain ⟨x, w1, h1, h2⟩ := andThen_ok_inv hr
  obtain rfl := h w x w1 h1
  exact hf x _ y w' h2
theorem sc_never {s : Sem α} (h : ∀ w x w', s.run P w ≠ .ok x w') : SConst P s := fun w x w' hr => absurd hr (h w x w')
theorem sc_program : SConst P program := fun w x w' h => by
  simp [Go.program, Sem.run] at h
  obtain ⟨rfl, rfl⟩ := h
  exact ⟨rfl, fun w2 => by simp [Go.program, Sem.run]⟩
theorem sc_typeInfo (t : TypeId) : SConst P (typeInfo t) := sc_bind sc_program fun p => by
  split
  · exact sc_pure _
  · exact sc_halt _
theorem sc_underlying (t : TypeId) : SConst P (underlying t) := sc_bind sc_program fun p => by
  split
  · exact sc_pure _
  · exact sc_halt _
theorem sc_under {t : TypeId} {d : TypeDesc} (hu : P.underlying t = some d) {f : TypeDesc → Sem β} (hf : SConst P (f d)) : SConst P (underlying t >>= f) := by
  have key : ∀ w, (underlying t >>= f).run P w = (f d).run P w := fun w => by rw [Sem.run_bind, run_underlying hu]; rfl
  intro w y w' hr
  rw [key] at hr
  obtain ⟨h1, h2⟩ := hf w y w' hr
  exact ⟨h1, fun w2 => by rw [key, h2]⟩
theorem sc_sizeOf (t : TypeId) : SConst P (Go.sizeOf t) := sc_bind (sc_typeInfo t) fun _ => sc_pure _
theorem sc_isAgg (t : TypeId) : SConst P (isAgg t) := sc_bind (sc_underlying t) fun _ => by split <;> exact sc_pure _
theorem sc_asBool (v : Value) : SConst P (asBool v) := by cases v <;> first | exact sc_pure _ | exact sc_halt _
theorem sc_asIntOf (v : Value) : SConst P (asIntOf v) := by
  cases v with
  | int k n => exact sc_pure _
  | pointer a => cases a <;> exact sc_halt _
  | _ => exact sc_halt _
theorem sc_sureAddr (v : Value) : SConst P (Instr.sureAddr v) := by
  cases v with
  | pointer a => cases a <;> first | exact sc_pure _ | exact sc_halt _
  | _ => exact sc_halt _
theorem runtimePanic_never (e : RuntimeError) (w : World) (x : α) (w' : World) : (runtimePanic e : Sem α).run P w ≠ .ok x w' := by
  intro h
  unfold runtimePanic at h
  rw [Sem.run_bind] at h
  obtain ⟨p, w1, h1, h2⟩ := andThen_ok_inv h
  cases e <;> simp [goPanic, Sem.run] at h2
  all_goals
    obtain ⟨_, _, _, h2⟩ := andThen_ok_inv h2
    try obtain ⟨_, _, _, h2⟩ := andThen_ok_inv h2
    simp at h2
theorem sc_runtimePanic (e : RuntimeError) : SConst P (runtimePanic e : Sem α) := sc_never (runtimePanic_never e)
theorem boundsPanic_never (k : IntKind) (x y : Int) (c : BoundsCode) (w : World) (v : α) (w' : World) : (boundsPanic k x y c : Sem α).run P w ≠ .ok v w' := by
  intro h
  unfold boundsPanic at h
  split at h
  · simp only [Sem.run_bind] at h
    obtain ⟨_, _, _, h2⟩ := andThen_ok_inv h
    exact runtimePanic_never _ _ _ _ h2
  · simp only [Sem.run_bind] at h
    obtain ⟨_, _, _, h2⟩ := andThen_ok_inv h
    exact runtimePanic_never _ _ _ _ h2
theorem sc_boundsPanic (k : IntKind) (x y : Int) (c : BoundsCode) : SConst P (boundsPanic k x y c : Sem α) := sc_never (boundsPanic_never k x y c)
theorem sc_ite {c : Prop} [Decidable c] {s t : Sem α} (hs : SConst P s) (ht : SConst P t) : SConst P (if c then s else t) := by split <;> assumption
theorem sc_indexAt (t : TypeId) (x i : Value) : SConst P (Instr.indexAt t x i) := by
  unfold Instr.indexAt
  refine sc_bind (sc_asIntOf i) fun ki => ?_
  refine sc_bind (sc_underlying t) fun d => ?_
  have tail : ∀ (r : Option Addr × Nat × TypeId) (tiny : Bool), SConst P (match r.1 with
      | some a => if 0 ≤ ki.2 ∧ ki.2 < r.2.1 then (do let n ← Go.sizeOf r.2.2; pure (Value.pointer (some (a.add (ki.2.toNat * n)))))
        else if tiny = true then unsupported (.noEntry "op/indexAddr.an index out of range at an array of length 0 or 1 (ledger 616)") else boundsPanic ki.1 ki.2 r.2.1 .index
      | none => boundsPanic ki.1 ki.2 0 .index : Sem Value) := by
    intro r tiny
    split
    · exact sc_ite (sc_bind (sc_sizeOf _) fun _ => sc_pure _) (sc_ite (sc_halt _) (sc_boundsPanic _ _ _ _))
    · exact sc_boundsPanic _ _ _ _
  dsimp only
  split
  · refine sc_bind (sc_sureAddr _) fun a => sc_bind (sc_pure _) fun r => ?_
    obtain ⟨b, l, e⟩ := r
    exact sc_bind (sc_underlying t) fun d => tail (b, l, e) _
  · refine sc_bind (sc_pure _) fun r => ?_
    obtain ⟨b, l, e⟩ := r
    exact sc_bind (sc_underlying t) fun d => tail (b, l, e) _
  · refine sc_bind (sc_halt _) fun r => ?_
    obtain ⟨b, l, e⟩ := r
    exact sc_bind (sc_underlying t) fun d => tail (b, l, e) _
theorem sc_sliceBound (x : Value) (y : Nat) (c : BoundsCode) : SConst P (Instr.sliceBound x y c) := by
  unfold Instr.sliceBound
  exact sc_bind (sc_asIntOf x) fun ki => sc_ite (sc_pure _) (sc_boundsPanic _ _ _ _)
theorem sc_sliceBounds (b : Bool) (len cap : Nat) (lo hi mx : Option Value) : SConst P (Instr.sliceBounds b len cap lo hi mx) := by
  unfold Instr.sliceBounds
  cases mx <;> cases hi <;> cases lo <;> dsimp only <;>
    repeat (first | exact sc_pure _ | exact sc_halt _ | exact sc_sliceBound _ _ _ | refine sc_bind (sc_sliceBound _ _ _) fun _ => ?_ | refine sc_bind (sc_pure _) fun _ => ?_ | refine sc_bind (sc_halt _) fun _ => ?_)
theorem sc_asAddr (v : Value) : SConst P (asAddr v) := by
  cases v with
  | pointer a => cases a with
    | none => exact (sc_runtimePanic RuntimeError.nilDeref : SConst P (runtimePanic RuntimeError.nilDeref : Sem Addr))
    | some a => exact sc_pure _
  | _ => exact sc_halt _
theorem sc_slice (t : TypeId) (x : Value) (lo hi mx : Option Value) : SConst P (Instr.slice t x lo hi mx) := by
  unfold Instr.slice
  refine sc_bind (sc_underlying t) fun d => ?_
  split
  · split
    · exact sc_bind (sc_halt _) fun _ => sc_bind (sc_sliceBounds _ _ _ _ _ _) fun _ => sc_pure _
    · exact sc_bind (sc_sliceBounds _ _ _ _ _ _) fun _ => sc_pure _
  · exact sc_bind (sc_sliceBounds _ _ _ _ _ _) fun _ => sc_bind (sc_sizeOf _) fun _ => sc_pure _
  · refine sc_bind (sc_asAddr _) fun a => sc_bind (sc_underlying _) fun d => ?_
    split
    · exact sc_bind (sc_sliceBounds _ _ _ _ _ _) fun _ => sc_bind (sc_sizeOf _) fun _ => sc_pure _
    · exact sc_halt _
  · exact sc_halt _
theorem sc_sliceAt (t : TypeId) (x : Value) (lo hi mx : Option Value) : SConst P (Instr.sliceAt t x lo hi mx) := by
  unfold Instr.sliceAt
  refine sc_bind (sc_underlying t) fun d => ?_
  split
  · exact sc_bind (sc_sureAddr _) fun _ => sc_bind (sc_sliceBounds _ _ _ _ _ _) fun _ => sc_bind (sc_sizeOf _) fun _ => sc_pure _
  · exact sc_slice _ _ _ _ _
theorem sc_extract (t : Value) (i : Nat) : SConst P (Instr.extract t i) := by
  unfold Instr.extract
  split
  · split
    · exact sc_pure _
    · exact sc_halt _
  · exact sc_halt _
theorem sc_part (t : TypeId) (cs : Array Value) (off : Nat) : SConst P (part t cs off) := by
  unfold Go.part
  refine sc_bind (sc_isAgg t) fun b => ?_
  split
  · exact sc_bind (sc_sizeOf _) fun _ => sc_pure _
  · split
    · exact sc_pure _
    · exact sc_halt _
theorem sc_asAgg (v : Value) : SConst P (asAgg v) := by cases v <;> first | exact sc_pure _ | exact sc_halt _
theorem sc_field (t : TypeId) (x : Value) (i : Nat) : SConst P (Instr.field t x i) := by
  unfold Instr.field
  refine sc_bind (sc_underlying t) fun d => ?_
  split
  · split
    · exact sc_bind (sc_asAgg _) fun _ => sc_part _ _ _
    · exact sc_halt _
  · exact sc_halt _
theorem sc_len {t : TypeId} (ht : lenTy P t = true) (ty : TypeId) (vs : Array Value) : SConst P (Builtin.len_ #[t] ty vs) := by
  unfold Builtin.len_
  have e0 : (#[t] : Array TypeId)[0]? = some t := rfl
  simp only [e0]
  cases hx : vs[0]? with
  | none => exact sc_halt _
  | some x =>
    dsimp only
    cases hu : P.underlying t with
    | none => simp [lenTy, hu] at ht
    | some d =>
      refine sc_under hu ?_
      cases d <;> first
        | (simp [lenTy, hu] at ht; done)
        | (cases x <;> first | exact sc_pure _ | exact sc_halt _)
theorem sk_load (a : Addr) : SKeep P (Go.load a) := fun w x w' h => by
  simp only [Go.load, Sem.run] at h
  split at h
  · simp at h; exact h.2.symm
  · split at h
    · simp at h; exact h.2.symm
    · simp at h
theorem sk_loadCellsFrom (a : Addr) : ∀ (n i : Nat) (acc : Array Value), SKeep P (loadCellsFrom a i n acc)
  | 0, _, _ => sc_keep (sc_pure _)
  | n + 1, _, _ => sk_bind (sk_load _) fun _ => sk_loadCellsFrom a n _ _
theorem sk_loadVar (t : TypeId) (a : Addr) : SKeep P (loadVar t a) := by
  unfold Go.loadVar
  refine sk_bind (sc_keep (sc_isAgg t)) fun b => ?_
  split
  · exact sk_bind (sc_keep (sc_sizeOf t)) fun _ => sk_bind (sk_loadCellsFrom _ _ _ _) fun _ => sc_keep (sc_pure _)
  · exact sk_load _
theorem sk_loadAt (t : TypeId) (v : Value) : SKeep P (Instr.loadAt t v) := sk_bind (sc_keep (sc_sureAddr v)) fun _ => sk_loadVar _ _
theorem sc_fieldAt {s : TypeId} {f : Nat} {fs : Array Field} {g : Field} (hs : P.underlying s = some (.struct fs)) (hg : fs[f]? = some g) (hz : (P.info? g.type).any (·.size != 0) = true) (v : Value) : SConst P (Instr.fieldAt s v f) := by
  intro w x w' h
  obtain ⟨i, hi, hn⟩ : ∃ i, P.info? g.type = some i ∧ i.size ≠ 0 := by
    cases hi : P.info? g.type with
    | none => simp [hi] at hz
    | some i => exact ⟨i, rfl, by simpa [hi] using hz⟩
  have key : ∀ w, (Instr.fieldAt s v f).run P w = ((Instr.sureAddr v).run P w).andThen fun a w' => .ok (.pointer (some (a.add g.offset))) w' := by
    intro w
    simp [Instr.fieldAt, run_underlying hs, hg, fieldPlace, Go.sizeOf, Go.typeInfo, hi, hn]
  rw [key] at h
  obtain ⟨a, w1, h1, h2⟩ := andThen_ok_inv h
  obtain ⟨rfl, h3⟩ := sc_sureAddr v w a w1 h1
  simp at h2
  obtain ⟨rfl, rfl⟩ := h2
  exact ⟨rfl, fun w2 => by rw [key, h3 w2]; rfl⟩
theorem sc_followBlind : ∀ (p : List FieldStep) (t : TypeId) (x : Option Value), SConst P (followBlind p t x)
  | [], _, _ => sc_pure _
  | s :: rest, t, x => by
    unfold followBlind
    refine sc_bind (sc_underlying _) fun d => ?_
    split
    · split
      · split
        · exact sc_pure _
        · exact sc_followBlind rest _ _
        · exact sc_halt _
        · exact sc_pure _
        · exact sc_bind (sc_part _ _ _) fun _ => sc_followBlind rest _ _
        · exact sc_halt _
        · exact sc_followBlind rest _ _
      · exact sc_halt _
    · exact sc_halt _
theorem sc_nilAhead : ∀ (n : Nat) (t : TypeId) (v : Value) (name : String), SConst P (nilAhead n t v name)
  | 0, _, _, _ => sc_pure _
  | n + 1, t, v, name => by
    unfold nilAhead
    refine sc_bind (sc_typeInfo _) fun i => ?_
    split
    · refine sc_bind (sc_followBlind _ _ _) fun r => ?_
      split
      · exact sc_pure _
      · split
        · exact sc_nilAhead n _ _ _
        · exact sc_pure _
        · exact sc_halt _
        · exact sc_pure _
        · exact sc_pure _
        · refine sc_bind (sc_underlying _) fun d => ?_
          split <;> exact sc_pure _
    · exact sc_halt _
end

/-- 2: one value in every world; 1: the world stands; 0: nothing is known. -/
def opCls (P : Program) (op : Op) : Nat :=
  match op with
  | .move _ | .assign _ | .nilCheck _ | .pick .. | .indexAddr .. | .slice .. | .extract .. | .field .. => 2
  | .fieldAddr s _ f => match P.underlying s with
    | some (.struct fs) => match fs[f]? with
      | some g => if (P.info? g.type).any (·.size != 0) then 2 else 0
      | none => 0
    | _ => 0
  | .load .. => 1
  | .call { callee := .builtin .len, args := _, argTypes := ⟨[t]⟩ } => if lenTy P t then 2 else 0
  | _ => 0

section
variable {P : Program}
theorem const_v {s : Sem Value} (h : SConst P s) : SConst P (do pure (Next.value (← s)) : Sem Next) := sc_bind h fun _ => sc_pure _
theorem opCls_const {ρ : Operand → Value} {o : Oper} (h : opCls P o.op = 2) : SConst P (execOp ρ o) := by
  obtain ⟨dst, op, type, pos, after, guard⟩ := o
  unfold opCls at h
  dsimp only at h
  split at h <;> try (simp at h; done)
  · exact sc_pure _
  · exact sc_pure _
  · simp only [execOp]
    split
    · exact sc_runtimePanic _
    · exact sc_runtimePanic _
    · exact sc_runtimePanic _
    · split
      · exact sc_runtimePanic _
      · refine sc_bind sc_program fun p => sc_bind (sc_nilAhead _ _ _ _) fun r => ?_
        split
        · exact sc_bind (sc_halt _) fun _ => sc_pure _
        · exact sc_pure _
      · exact sc_pure _
    · exact sc_pure _
  · exact sc_bind (sc_asBool _) fun _ => sc_pure _
  · exact const_v (sc_indexAt _ _ _)
  · exact const_v (sc_sliceAt _ _ _ _ _)
  · exact sc_bind (sc_extract _ _) fun _ => sc_pure _
  · exact const_v (sc_field _ _ _)
  · split at h
    · rename_i fs hs
      split at h
      · rename_i g hg
        split at h
        · rename_i hz
          exact const_v (sc_fieldAt hs hg hz _)
        · simp at h
      · simp at h
    · simp at h
  · split at h
    · rename_i args ts hz
      exact const_v (sc_len hz type (args.map ρ))
    · simp at h
theorem keep_v {s : Sem Value} (h : SKeep P s) : SKeep P (do pure (Next.value (← s)) : Sem Next) := sk_bind h fun _ => sc_keep (sc_pure _)
theorem opCls_load {ρ : Operand → Value} {o : Oper} (h : opCls P o.op = 1) : SKeep P (execOp ρ o) := by
  obtain ⟨dst, op, type, pos, after, guard⟩ := o
  unfold opCls at h
  dsimp only at h
  split at h <;> try (simp at h; done)
  · repeat (split at h <;> try (simp at h; done))
  · exact keep_v (sk_loadAt _ _)
  · split at h <;> simp at h
/-- What a quiet operation ends in. -/
theorem opCls_value {ρ : Operand → Value} {o : Oper} (h : opCls P o.op ≠ 0) {w w' : World} {n : Next} (hr : (execOp ρ o).run P w = .ok n w') : ∃ v, n = .value v := by
  have key : ∀ {s : Sem Value}, (do pure (Next.value (← s)) : Sem Next).run P w = .ok n w' → ∃ v, n = .value v := fun {s} hr => by
    rw [Sem.run_bind] at hr
    obtain ⟨x, w1, _, h2⟩ := andThen_ok_inv hr
    simp at h2
    exact ⟨x, h2.1.symm⟩
  obtain ⟨dst, op, type, pos, after, guard⟩ := o
  unfold opCls at h
  dsimp only at h
  split at h
  · simp [execOp] at hr; exact ⟨_, hr.1.symm⟩
  · simp [execOp] at hr; exact ⟨_, hr.1.symm⟩
  · simp only [execOp] at hr
    split at hr
    · exact absurd hr (runtimePanic_never _ _ _ _)
    · exact absurd hr (runtimePanic_never _ _ _ _)
    · exact absurd hr (runtimePanic_never _ _ _ _)
    · split at hr
      · exact absurd hr (runtimePanic_never _ _ _ _)
      · rw [Sem.run_bind] at hr
        obtain ⟨_, _, _, hr⟩ := andThen_ok_inv hr
        rw [Sem.run_bind] at hr
        obtain ⟨_, _, _, hr⟩ := andThen_ok_inv hr
        split at hr
        · rw [Sem.run_bind] at hr
          obtain ⟨_, _, h1, _⟩ := andThen_ok_inv hr
          simp [unsupported, Sem.run] at h1
        · simp at hr; exact ⟨_, hr.1.symm⟩
      · simp at hr; exact ⟨_, hr.1.symm⟩
    · simp at hr; exact ⟨_, hr.1.symm⟩
  · exact key (s := do pure (if ← asBool (ρ _) then ρ _ else ρ _)) (by simpa [execOp] using hr)
  · exact key hr
  · exact key hr
  · exact key (s := Instr.extract _ _) hr
  · exact key hr
  · exact key (s := Instr.fieldAt _ _ _) hr
  · exact key hr
  · exact key (s := Builtin.len_ _ _ _) hr
  · exact absurd rfl h
end
end Go.Tt

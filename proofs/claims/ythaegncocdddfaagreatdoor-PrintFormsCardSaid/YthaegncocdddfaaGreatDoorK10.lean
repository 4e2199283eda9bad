/- Merged: Blk2 Blk3 Blk4 Blk5 Last Rga2j. -/
import Derived.Lib.AppendZerosOnto
import Derived.Lib.Overlaps
import Derived.ScopeJumps
import Derived.WalkMore
import Derived.Test.YthaegncocdddfaaGreatDoorK00
import Derived.Test.YthaegncocdddfaaGreatDoorK08
/- xs[k:] of what reads, in one step. No program in sight. -/
namespace Go.Tt
set_option linter.unusedVariables false
set_option linter.unusedSimpArgs false
set_option linter.unusedVariables false
set_option linter.unusedSimpArgs false
open Go.RowKit Go.Lib
section
variable {P : Program} {α : Type}
theorem Enc.flat_drop (E : Enc α) (l : List α) (k : Nat) (hk : k ≤ l.length) : ∀ m u, (E.flat (l.drop k))[m]? = some u → (E.flat l)[k * E.k + m]? = some u := by
  intro m u hu
  have e : E.flat l = E.flat (l.take k) ++ E.flat (l.drop k) := by rw [← E.flat_append, List.take_append_drop]
  have hl : (E.flat (l.take k)).length = k * E.k := by rw [E.flat_len, List.length_take, Nat.min_eq_left hk]
  rw [e, List.getElem?_append_right (by omega), hl, Nat.add_sub_cancel_left]
  exact hu
theorem RdS_sliced {w : World} {E : Enc α} {a : Option Addr} {n c k : Nat} {l : List α} (h : RdS w E (.slice a n c) l) (hk : k ≤ n) : ∃ a' c', sliced a k n c E.k = .slice a' (n - k) c' ∧ RdS w E (.slice a' (n - k) c') (l.drop k) := by
  obtain ⟨a', c', h1, h2, h3, h4, h5⟩ := h
  simp only [Value.slice.injEq] at h1
  obtain ⟨rfl, rfl, rfl⟩ := h1
  refine ⟨_, _, rfl, _, _, by rw [List.length_drop], by rw [List.length_drop]; omega, by omega, ?_, ?_⟩
  · intro he
    by_cases hc : c = k
    · rw [List.length_drop]; omega
    · rw [if_neg hc] at he
      have : a = none := by simpa using he
      have := h4 this
      rw [List.length_drop]; omega
  · rw [List.length_drop]
    intro hpos
    obtain ⟨b, off, rfl, hcell⟩ := h5 (by omega)
    rw [if_neg (by omega)]
    refine ⟨b, off + k * E.k, by simp [Addr.add_lit], fun m u hu => ?_⟩
    rw [Nat.add_assoc]
    exact hcell _ u (E.flat_drop l k hk m u hu)
theorem wpList_from (w : World) {ops : Array Oper} {rest : List Oper} {o : Oper} {a : Act} {Q : Exit → Act → World → Prop} (hgd : o.guard = none) (x lo : Operand) (t e : TypeId) (ho : o.op = .slice t x (some lo) none none)
    {E : Enc α} (ht : P.underlying t = some (.slice e)) (he : P.elem t = e) (hi : (P.info? e).map (·.size) = some E.k) {s : Option Addr} {n c k : Nat} {l : List α} (h : RdS w E (.slice s n c) l) (hk : k ≤ n) (hx : a.eval x = .slice s n c) (hl : a.eval lo = .int .i64 k)
    (hK : ∀ a' c', RdS w E (.slice a' (n - k) c') (l.drop k) → wpList P ops Q rest (a.put o.dst (.slice a' (n - k) c')) w) : wpList P ops Q (o :: rest) a w := by
  refine wpList_plain hgd fun K hK' => ?_
  obtain ⟨a', c', e1, e2⟩ := RdS_sliced h hk
  obtain ⟨i, hi', hs⟩ := Option.map_eq_some_iff.1 hi
  subst he
  have hr : (Instr.sliceAt t (.slice s n c) (some (.int .i64 (k : Int))) none none).run P w = .ok (.slice a' (n - k) c') w := by
    rw [run_sliceAt_slice w t _ _ _ _ ht, run_slice_l w t s n c ht .i64 k (by omega) (by omega)]
    simp [sizeOf, typeInfo, hi', hs, e1]
  unfold Oper.wp
  simp [execOp, ho, hx, hl, hr, Result.andThen]
  exact hK' _ _ (hK a' c' e2)
end
end Go.Tt

/- copy into a row, in one step; append of zeros. No program in sight. -/
namespace Go.Tt
set_option linter.unusedVariables false
set_option linter.unusedSimpArgs false
open Go.RowKit Go.Lib
section
variable {P : Program} {α : Type}
/-- What a row holds behind a copy. -/
def rowPut (cur : List Value) (o : Nat) (cs : List Value) : List Value := cur.take o ++ cs ++ cur.drop (o + cs.length)
theorem run_copyk (w : World) (dT sT ty elem : TypeId) (g o dLen dCap : Nat) (a : Addr) (sLen sCap : Nat) (cur : Array Value) (t : TypeId) (cs : List Value) (k : Nat)
    (hu : P.underlying dT = some (.slice elem)) (hs : (P.info? elem).map (·.size) = some k)
    (hg : w.heap[g]? = some (.cells cur t (0, 0))) (hn : cs.length = Nat.min sLen dLen * k)
    (hsrc : ∀ j v, cs[j]? = some v → w.cell? (a.add j) = some v) (hfit : o + cs.length ≤ cur.size) (h1 : ∀ v ∈ cs, v.oneCell' = true) :
    (Builtin.copy_ #[dT, sT] ty #[.slice (some ⟨g, o, none⟩) dLen dCap, .slice (some a) sLen sCap]).run P w =
      .ok (goInt (Nat.min sLen dLen)) (w.setRow g (rowPut cur.toList o cs).toArray) := by
  have hl := run_firstCells_some (P := P) w k (Nat.min sLen dLen) a sLen sCap cs hn hsrc
  have hst := run_storeCells_at P g o t cs 0 cur w hg (by simpa using hfit) h1
  cases hq : P.info? elem with
  | none => simp [hq] at hs
  | some i =>
    have hi : i.size = k := by simpa [hq] using hs
    simp [Builtin.copy_, run_underlying hu, Builtin.lenOf, sizeOf, typeInfo, hq, hi, hl, hst, rowPut]
theorem wpList_copyk (w : World) {ops : Array Oper} {rest : List Oper} {o : Oper} {a : Act} {Q : Exit → Act → World → Prop} (hgd : o.guard = none) (d x : Operand) (dT sT elem : TypeId)
    (ho : o.op = .call { callee := .builtin .copy, args := #[d, x], argTypes := #[dT, sT] }) {g off dLen dCap : Nat} {b : Addr} {sLen sCap : Nat} {cur : Array Value} {t : TypeId} (cs : List Value) (k : Nat)
    (hu : P.underlying dT = some (.slice elem)) (hs : (P.info? elem).map (·.size) = some k)
    (hg : w.heap[g]? = some (.cells cur t (0, 0))) (hn : cs.length = Nat.min sLen dLen * k)
    (hsrc : ∀ j v, cs[j]? = some v → w.cell? (b.add j) = some v) (hfit : off + cs.length ≤ cur.size) (h1 : ∀ v ∈ cs, v.oneCell' = true)
    (hd : a.eval d = .slice (some ⟨g, off, none⟩) dLen dCap) (hx : a.eval x = .slice (some b) sLen sCap)
    (h : ∀ w', w'.heap[g]? = some (.cells (rowPut cur.toList off cs).toArray t (0, 0)) → Frm (fun k => k = g) w w' → w'.heap.size = w.heap.size → wpList P ops Q rest (a.put o.dst (goInt (Nat.min sLen dLen))) w') : wpList P ops Q (o :: rest) a w := by
  refine wpList_plain hgd fun K hK => ?_
  have hr := run_copyk (P := P) w dT sT o.type elem g off dLen dCap b sLen sCap cur t cs k hu hs hg hn hsrc hfit h1
  unfold Oper.wp execOp
  simp only [ho, resolve, invoke, builtin, Sem.run_bind, Sem.run_pure, Result.andThen_ok, List.map_toArray, List.map_cons, List.map_nil, hd, hx, hr]
  exact hK _ _ (h _ (setRow_heap w g cur _ t _ hg) ⟨rfl, rfl, rfl, by simp, fun k _ hk => setRow_other w g k _ hk⟩ (by simp))
/-- append(s, make(..)...) that does not find room. -/
theorem wpList_apz (w : World) {ops : Array Oper} {rest : List Oper} {o : Oper} {a : Act} {Q : Exit → Act → World → Prop} (hgd : o.guard = none) (s x : Operand) (t tn e : TypeId)
    (ho : o.op = .call { callee := .builtin .append, args := #[s, x], argTypes := #[t, tn] }) {kn : IntKind} (ht : P.underlying t = some (.slice e)) (htn : P.underlying tn = some (.int kn)) (z : Value) (bytes : Nat) {E : Enc α}
    (hi : (P.info? e).map (fun i => (i.zero, i.size, i.bytes)) = some (some z, E.k, bytes)) (hzs : z.cells.size = E.k) {base : Option Addr} {sLen sCap : Nat} {l : List α}
    (hold : RdS w E (.slice base sLen sCap) l) (kq : IntKind) (k : Nat) (h0 : 0 < k) (hgr : sCap < sLen + k) (hbytes : (sLen + k) * bytes ≤ 140737488355328) (h63 : sLen + k ≤ maxLen)
    (hs : a.eval s = .slice base sLen sCap) (hx : a.eval x = .int kq k)
    (h : ∀ c' w' (row : Array Value), w'.heap[w.heap.size]? = some (.cells row e (0, 0)) → row.size = c' * E.k → sLen + k ≤ c' → c' ≤ maxLen → row.toList.take (sLen * E.k) = E.flat l → Frm No w w' → w'.heap.size = w.heap.size + 1 →
      wpList P ops Q rest (a.put o.dst (.slice (some ⟨w.heap.size, 0, none⟩) (sLen + k) c')) w') : wpList P ops Q (o :: rest) a w := by
  refine wpList_plain hgd fun K hK => ?_
  obtain ⟨i, hi', hz, hk, hb⟩ := info_parts hi
  have hm : sLen + k ≤ 9223372036854775807 := by simp only [maxLen] at h63; omega
  have hr := run_append_grow_zeros (P := P) w t tn o.type e i z kq kn ht htn hi' hz base sLen sCap (E.flat l) (by rw [hk]; exact hold.drew.first) k h0 (by rw [hk]; exact E.pos) hgr (by omega)
    (by rw [hb]; refine Nat.le_trans (Nat.mul_le_mul_right _ (Nat.le_add_left k sLen)) (by omega)) (growslice_fits hgr (by rw [hb]; exact hbytes))
  have hge := grownCap_ge w (sLen + k) sCap e
  have hcm : grownCap w (sLen + k) sCap e ≤ maxLen := grownCap_le_maxLen w (sLen + k) sCap e h63
  have hl : (E.flat l).length = sLen * E.k := by rw [E.flat_len, hold.facts.1]
  unfold Oper.wp execOp
  simp only [ho, resolve, invoke, builtin, Sem.run_bind, Sem.run_pure, Result.andThen_ok, List.map_toArray, List.map_cons, List.map_nil, hs, hx, hr]
  refine hK _ _ (h _ _ _ (heap_alloc_new w.drew _) ?_ hge hcm ?_ ⟨rfl, rfl, rfl, by simp, fun j hj _ => Below.heap_alloc w.drew _ j hj⟩ (by simp))
  · simp only [Array.size_append, List.size_toArray, size_zeroCells, hzs, hl, ← Nat.add_mul]
    congr 1
    omega
  · simp only [Array.toList_append, List.append_assoc]
    rw [← hl]
    exact List.take_left
theorem rowPut_len (cur : List Value) (o : Nat) (cs : List Value) (h : o + cs.length ≤ cur.length) : (rowPut cur o cs).length = cur.length := by
  unfold rowPut
  simp only [List.length_append, List.length_take, List.length_drop]
  omega
theorem rowPut_at (cur : List Value) (o : Nat) (cs : List Value) (h : o + cs.length ≤ cur.length) (j : Nat) : (rowPut cur o cs)[j]? = if j < o then cur[j]? else if j < o + cs.length then cs[j - o]? else cur[j]? := by
  unfold rowPut
  have ht : (cur.take o).length = o := by rw [List.length_take]; omega
  by_cases h1 : j < o
  · rw [if_pos h1, List.append_assoc, List.getElem?_append_left (by omega), List.getElem?_take, if_pos h1]
  · rw [if_neg h1]
    by_cases h2 : j < o + cs.length
    · rw [if_pos h2, List.append_assoc, List.getElem?_append_right (by omega), ht, List.getElem?_append_left (by omega)]
    · rw [if_neg h2, List.getElem?_append_right (by rw [List.length_append]; omega), List.getElem?_drop]
      congr 1
      rw [List.length_append, ht]; omega
/-- Two copies, in whatever order, make an insertion. -/
theorem row_ins {E : Enc α} {l : List α} {row : List Value} {i : Nat} {x : α} (hi : i ≤ l.length) (hpre : row.take (i * E.k) = E.flat (l.take i)) (hfit : (l.length + 1) * E.k ≤ row.length) :
    (rowPut (rowPut row ((i + 1) * E.k) (E.flat (l.drop i))) (i * E.k) (E.f x)).take ((l.length + 1) * E.k) = E.flat (l.take i ++ x :: l.drop i) ∧
    (rowPut (rowPut row (i * E.k) (E.f x)) ((i + 1) * E.k) (E.flat (l.drop i))).take ((l.length + 1) * E.k) = E.flat (l.take i ++ x :: l.drop i) := by
  have hd : (E.flat (l.drop i)).length = (l.length - i) * E.k := by rw [E.flat_len, List.length_drop]
  have hx : (E.f x).length = E.k := E.len x
  have hs : (i + 1) * E.k = i * E.k + E.k := by rw [Nat.add_mul, Nat.one_mul]
  have hsum : (i + 1) * E.k + (l.length - i) * E.k = (l.length + 1) * E.k := by rw [← Nat.add_mul]; congr 1; omega
  have htl : (E.flat (l.take i)).length = i * E.k := by rw [E.flat_len, List.length_take, Nat.min_eq_left hi]
  have hrow : row.length = (l.length + 1) * E.k + (row.length - (l.length + 1) * E.k) := by omega
  have goal : ∀ R : List Value, R.length = row.length → (∀ j, j < i * E.k → R[j]? = row[j]?) → (∀ j, j < E.k → R[i * E.k + j]? = (E.f x)[j]?) → (∀ j, j < (l.length - i) * E.k → R[(i + 1) * E.k + j]? = (E.flat (l.drop i))[j]?) →
      R.take ((l.length + 1) * E.k) = E.flat (l.take i ++ x :: l.drop i) := by
    intro R hl h1 h2 h3
    rw [E.flat_append, E.flat_cons]
    apply List.ext_getElem?
    intro j
    rw [List.getElem?_take]
    by_cases hj : j < (l.length + 1) * E.k
    · rw [if_pos hj]
      by_cases c1 : j < i * E.k
      · rw [h1 j c1, List.getElem?_append_left (by omega), ← hpre, List.getElem?_take, if_pos c1]
      · rw [List.getElem?_append_right (by omega), htl]
        by_cases c2 : j < (i + 1) * E.k
        · rw [List.getElem?_append_left (by omega), ← h2 _ (by omega)]
          congr 1; omega
        · rw [List.getElem?_append_right (by omega), hx, ← h3 _ (by omega)]
          congr 1; omega
    · rw [if_neg hj]
      exact (List.getElem?_eq_none (by simp only [List.length_append]; omega)).symm
  have hl1 : ((i + 1) * E.k + (E.flat (l.drop i)).length ≤ row.length) := by omega
  have hl2 : (i * E.k + (E.f x).length ≤ row.length) := by omega
  constructor
  · have a1 := rowPut_len row _ _ hl1
    have a2 : i * E.k + (E.f x).length ≤ (rowPut row ((i + 1) * E.k) (E.flat (l.drop i))).length := by omega
    refine goal _ (by rw [rowPut_len _ _ _ a2, a1]) (fun j hj => ?_) (fun j hj => ?_) (fun j hj => ?_)
    · rw [rowPut_at _ _ _ a2, if_pos hj, rowPut_at _ _ _ hl1, if_pos (by omega)]
    · rw [rowPut_at _ _ _ a2, if_neg (by omega), if_pos (by omega), Nat.add_sub_cancel_left]
    · rw [rowPut_at _ _ _ a2, if_neg (by omega), if_neg (by omega), rowPut_at _ _ _ hl1, if_neg (by omega), if_pos (by omega), Nat.add_sub_cancel_left]
  · have a1 := rowPut_len row _ _ hl2
    have a2 : (i + 1) * E.k + (E.flat (l.drop i)).length ≤ (rowPut row (i * E.k) (E.f x)).length := by omega
    refine goal _ (by rw [rowPut_len _ _ _ a2, a1]) (fun j hj => ?_) (fun j hj => ?_) (fun j hj => ?_)
    · rw [rowPut_at _ _ _ a2, if_pos (by omega), rowPut_at _ _ _ hl2, if_pos hj]
    · rw [rowPut_at _ _ _ a2, if_pos (by omega), rowPut_at _ _ _ hl2, if_neg (by omega), if_pos (by omega), Nat.add_sub_cancel_left]
    · rw [rowPut_at _ _ _ a2, if_neg (by omega), if_pos (by omega), Nat.add_sub_cancel_left]
/-- A row that holds a list is the call's own. -/
theorem Ow.row {w : World} {F : Nat → Prop} {e : TypeId} {E : Enc α} {g c : Nat} {row : Array Value} {l : List α} (hg : w.heap[g]? = some (.cells row e (0, 0))) (hF : F g) (hn : l.length ≤ c) (hc : c ≤ maxLen) (hr : row.size = c * E.k) (ht : row.toList.take (l.length * E.k) = E.flat l) :
    Ow w F e E (.slice (some ⟨g, 0, none⟩) l.length c) l :=
  .inr ⟨⟨E.flat_len l, .inr ⟨g, c, row, rfl, Nat.zero_le _, hg, hn, hc, hr, ht⟩⟩, fun g' hg' => by obtain rfl := Option.some.inj hg'; exact hF⟩
theorem Ow.cases {w : World} {F : Nat → Prop} {e : TypeId} {E : Enc α} {a : Option Addr} {n c : Nat} {l : List α} (h : Ow w F e E (.slice a n c) l) (hn : 0 < n) :
    ∃ g row, a = some ⟨g, 0, none⟩ ∧ w.heap[g]? = some (.cells row e (0, 0)) ∧ F g ∧ n = l.length ∧ n ≤ c ∧ c ≤ maxLen ∧ row.size = c * E.k ∧ row.toList.take (l.length * E.k) = E.flat l := by
  rcases h with ⟨a', h1, rfl⟩ | ⟨⟨h1, h2⟩, hF⟩
  · simp only [Value.slice.injEq] at h1; omega
  · rcases h2 with ⟨h2, _⟩ | ⟨g, cap, row, h2, _, hg, hn', hm, hs, ht⟩
    · simp only [Value.slice.injEq] at h2; omega
    · simp only [Value.slice.injEq] at h2
      obtain ⟨rfl, rfl, rfl⟩ := h2
      exact ⟨g, row, rfl, hg, hF g rfl, rfl, hn', hm, hs, ht⟩
/-- The footprint F, cut to blocks of one element type. -/
def Ty (w : World) (e : TypeId) (F : Nat → Prop) (k : Nat) : Prop := F k ∧ ∃ row fz, w.heap[k]? = some (.cells row e fz)
theorem Ow.ty {w : World} {F : Nat → Prop} {e : TypeId} {E : Enc α} {v : Value} {l : List α} (h : Ow w F e E v l) : Ow w (Ty w e F) e E v l := by
  rcases h with h | ⟨h, hF⟩
  · exact .inl h
  · refine .inr ⟨h, fun g hg => ⟨hF g hg, ?_⟩⟩
    rcases h.2 with ⟨rfl, _⟩ | ⟨g', cap, cur, rfl, _, hgg, _⟩
    · simp [Value.ownBlock] at hg
    · obtain rfl := Option.some.inj hg
      exact ⟨_, _, hgg⟩
theorem Ty.apart {w : World} {e e' : TypeId} {F G : Nat → Prop} (hne : e ≠ e') {k : Nat} (h : Ty w e F k) : ¬ Ty w e' G k := by
  rintro ⟨-, row', fz', h'⟩
  obtain ⟨-, row, fz, h⟩ := h
  rw [h] at h'
  simp at h'
  exact hne h'.2.1
end
end Go.Tt

/- A struct stored into a row; a row cleared. No program in sight. -/
namespace Go.Tt
set_option linter.unusedVariables false
set_option linter.unusedSimpArgs false
open Go.RowKit Go.Lib
section
variable {P : Program} {α : Type}
theorem run_stoAt (w : World) {b off : Nat} {cur : Array Value} {vs : List Value} {t e : TypeId} (hB : w.heap[b]? = some (.cells cur e (0, 0))) (hi : (P.info? t).map (·.size) = some vs.length) (hl : off + vs.length ≤ cur.size) (one : ∀ v ∈ vs, v.oneCell' = true) :
    (Instr.storeAt t (.pointer (some ⟨b, off, none⟩)) (.agg vs.toArray)).run P w = .ok () (w.setRow b (rowPut cur.toList off vs).toArray) := by
  obtain ⟨i, hi', hs⟩ := Option.map_eq_some_iff.1 hi
  have hst := run_storeCells_at P b off e vs 0 cur w hB (by omega) one
  simp only [Nat.add_zero] at hst
  simp [Instr.storeAt, Instr.sureAddr, storeVar, sizeOf, typeInfo, hi', hs, Value.cells, hst, rowPut]
theorem wpList_stoAt (w : World) {ops : Array Oper} {rest : List Oper} {o : Oper} {a : Act} {Q : Exit → Act → World → Prop} (hgd : o.guard = none) (p x : Operand) (t : TypeId) (ho : o.op = .store t p x)
    {b off : Nat} {cur : Array Value} {vs : List Value} {e : TypeId} (hB : w.heap[b]? = some (.cells cur e (0, 0))) (hi : (P.info? t).map (·.size) = some vs.length) (hl : off + vs.length ≤ cur.size) (one : ∀ v ∈ vs, v.oneCell' = true)
    (hp : a.eval p = .pointer (some ⟨b, off, none⟩)) (hx : a.eval x = .agg vs.toArray)
    (h : ∀ w', w'.heap[b]? = some (.cells (rowPut cur.toList off vs).toArray e (0, 0)) → Frm (fun k => k = b) w w' → w'.heap.size = w.heap.size → wpList P ops Q rest (a.put o.dst undef) w') : wpList P ops Q (o :: rest) a w := by
  refine wpList_plain hgd fun K hK => ?_
  have hr := run_stoAt (P := P) w hB hi hl one
  unfold Oper.wp
  simp [execOp, ho, hp, hx, hr, Result.andThen]
  exact hK _ _ (h _ (setRow_heap w b cur _ e _ hB) ⟨rfl, rfl, rfl, by simp, fun k _ hk => setRow_other w b k _ hk⟩ (by simp))
theorem wpList_clr (w : World) {ops : Array Oper} {rest : List Oper} {o : Oper} {a : Act} {Q : Exit → Act → World → Prop} (hgd : o.guard = none) (x : Operand) (t e : TypeId)
    (ho : o.op = .call { callee := .builtin .clear, args := #[x], argTypes := #[t] }) (ht : P.underlying t = some (.slice e)) {z : Value} (hz : ∀ w, (zeroValue e).run P w = .ok z w)
    {b off n c : Nat} {cur : Array Value} (one : ∀ v ∈ (Builtin.zeroCells z.cells n).toList, v.oneCell' = true) (hn : 0 < n) (hB : w.heap[b]? = some (.cells cur e (0, 0))) (hl : off + (Builtin.zeroCells z.cells n).size ≤ cur.size) (hx : a.eval x = .slice (some ⟨b, off, none⟩) n c)
    (h : ∀ w', w'.heap[b]? = some (.cells (rowPut cur.toList off (Builtin.zeroCells z.cells n).toList).toArray e (0, 0)) → Frm (fun k => k = b) w w' → w'.heap.size = w.heap.size → wpList P ops Q rest (a.put o.dst (.tuple #[])) w') : wpList P ops Q (o :: rest) a w := by
  refine wpList_plain hgd fun K hK => ?_
  have hst := run_storeCells_at P b off e (Builtin.zeroCells z.cells n).toList 0 cur w hB (by simpa using hl) one
  simp only [Nat.add_zero] at hst
  obtain ⟨m, rfl⟩ : ∃ m, n = m + 1 := ⟨n - 1, by omega⟩
  have hr : (Builtin.clear_ #[t] o.type #[.slice (some ⟨b, off, none⟩) (m + 1) c]).run P w = .ok (.tuple #[]) (w.setRow b (rowPut cur.toList off (Builtin.zeroCells z.cells (m + 1)).toList).toArray) := by
    simp [Builtin.clear_, run_underlying ht, hz, hst, rowPut]
  unfold Oper.wp execOp
  simp only [ho, resolve, invoke, builtin, Sem.run_bind, Sem.run_pure, Result.andThen_ok, List.map_toArray, List.map_cons, List.map_nil, hx, hr]
  exact hK _ _ (h _ (setRow_heap w b cur _ e _ hB) ⟨rfl, rfl, rfl, by simp, fun k _ hk => setRow_other w b k _ hk⟩ (by simp))
theorem row_app {E : Enc α} {row : List Value} {i : Nat} {x : α} {fl : List α} (hfl : fl.length = i) (ht : row.take (i * E.k) = E.flat fl) (hfit : (i + 1) * E.k ≤ row.length) :
    (rowPut row (i * E.k) (E.f x)).take ((i + 1) * E.k) = E.flat (fl ++ [x]) ∧ ∀ m, (i + 1) * E.k ≤ m → (rowPut row (i * E.k) (E.f x))[m]? = row[m]? := by
  have hx : (E.f x).length = E.k := E.len x
  have hs : (i + 1) * E.k = i * E.k + E.k := by rw [Nat.add_mul, Nat.one_mul]
  have hl : i * E.k + (E.f x).length ≤ row.length := by omega
  have htl : (E.flat fl).length = i * E.k := by rw [E.flat_len, hfl]
  constructor
  · rw [E.flat_append, E.flat_one]
    apply List.ext_getElem?
    intro j
    rw [List.getElem?_take]
    by_cases hj : j < (i + 1) * E.k
    · rw [if_pos hj, rowPut_at _ _ _ hl]
      by_cases c1 : j < i * E.k
      · rw [if_pos c1, List.getElem?_append_left (by omega), ← ht, List.getElem?_take, if_pos c1]
      · rw [if_neg c1, if_pos (by omega), List.getElem?_append_right (by omega), htl]
    · rw [if_neg hj]
      exact (List.getElem?_eq_none (by simp only [List.length_append]; omega)).symm
  · intro m hm
    rw [rowPut_at _ _ _ hl, if_neg (by omega), if_neg (by omega)]
/-- What a row holds ahead of a store stands. -/
theorem row_keep {row cs : List Value} {o k : Nat} (hl : o + cs.length ≤ row.length) (hk : k ≤ o) : (rowPut row o cs).take k = row.take k := by
  apply List.ext_getElem?
  intro j
  rw [List.getElem?_take, List.getElem?_take]
  by_cases hj : j < k
  · rw [if_pos hj, if_pos hj, rowPut_at _ _ _ hl, if_pos (by omega)]
  · rw [if_neg hj, if_neg hj]
end
end Go.Tt

/- A value stored into a block that is known whole: one step, a world that is told by the block alone. No program in sight. -/
namespace Go.Tt
set_option linter.unusedVariables false
set_option linter.unusedSimpArgs false
open Go.RowKit Go.Lib
section
variable {P : Program}
theorem run_stoC (w : World) {b off : Nat} {cur : Array Value} {v : Value} {vs : List Value} {t e : TypeId} (hB : w.heap[b]? = some (.cells cur e (0, 0))) (hv : v.cells = vs.toArray) (hi : (P.info? t).map (·.size) = some vs.length) (hl : off + vs.length ≤ cur.size) (one : ∀ v ∈ vs, v.oneCell' = true) :
    (Instr.storeAt t (.pointer (some ⟨b, off, none⟩)) v).run P w = .ok () (w.setRow b (rowPut cur.toList off vs).toArray) := by
  obtain ⟨i, hi', hs⟩ := Option.map_eq_some_iff.1 hi
  have hst := run_storeCells_at P b off e vs 0 cur w hB (by omega) one
  simp only [Nat.add_zero] at hst
  simp [Instr.storeAt, Instr.sureAddr, storeVar, sizeOf, typeInfo, hi', hs, hv, hst, rowPut]
theorem wpList_stoC (w : World) {ops : Array Oper} {rest : List Oper} {o : Oper} {a : Act} {Q : Exit → Act → World → Prop} (hgd : o.guard = none) (p x : Operand) (t : TypeId) (ho : o.op = .store t p x)
    {b off : Nat} {cur : Array Value} {v : Value} {vs : List Value} {e : TypeId} (hB : w.heap[b]? = some (.cells cur e (0, 0))) (hv : v.cells = vs.toArray) (hi : (P.info? t).map (·.size) = some vs.length) (hl : off + vs.length ≤ cur.size) (one : ∀ v ∈ vs, v.oneCell' = true)
    (hp : a.eval p = .pointer (some ⟨b, off, none⟩)) (hx : a.eval x = v) (cs' : Array Value) (hcs : (rowPut cur.toList off vs).toArray = cs')
    (h : ∀ w', w'.heap[b]? = some (.cells cs' e (0, 0)) → Frm (fun k => k = b) w w' → w'.heap.size = w.heap.size → wpList P ops Q rest (a.put o.dst undef) w') : wpList P ops Q (o :: rest) a w := by
  subst hcs
  refine wpList_plain hgd fun K hK => ?_
  have hr := run_stoC (P := P) w hB hv hi hl one
  unfold Oper.wp
  simp [execOp, ho, hp, hx, hr, Result.andThen]
  exact hK _ _ (h _ (setRow_heap w b cur _ e _ hB) ⟨rfl, rfl, rfl, by simp, fun k _ hk => setRow_other w b k _ hk⟩ (by simp))
end
end Go.Tt

/- A store into the last element of a slice of one's own. No program in sight. -/
namespace Go.Tt
set_option linter.unusedVariables false
set_option linter.unusedSimpArgs false
open Go.RowKit Go.Lib
section
variable {P : Program} {α : Type}
theorem put_last {E : Enc α} {acc : List α} {x y : α} {j : Nat} {vs : List Value} (hj : j + vs.length ≤ E.k) (hy : E.f y = (E.f x).take j ++ vs ++ (E.f x).drop (j + vs.length)) {row : List Value} {n : Nat} (hn : n = (acc ++ [x]).length) (ht : row.take (n * E.k) = E.flat (acc ++ [x])) (hr : n * E.k ≤ row.length) :
    (rowPut row (acc.length * E.k + j) vs).take (n * E.k) = E.flat (acc ++ [y]) := by
  subst hn
  have e : (acc ++ [x]).length * E.k = acc.length * E.k + E.k := by simp [Nat.add_mul]
  rw [e] at ht hr ⊢
  have hrow : row = (E.flat acc ++ E.f x) ++ row.drop (acc.length * E.k + E.k) := by
    conv => lhs; rw [← List.take_append_drop (acc.length * E.k + E.k) row]
    rw [ht, E.flat_append, E.flat_one]
  have lx : (E.f x).length = E.k := E.len x
  have la : (E.flat acc).length = acc.length * E.k := E.flat_len acc
  unfold rowPut
  obtain ⟨D, hD⟩ : ∃ D, row.drop (acc.length * E.k + E.k) = D := ⟨_, rfl⟩
  rw [hD] at hrow
  rw [hrow, E.flat_append, E.flat_one, hy, List.append_assoc (E.flat acc), ← la]
  generalize E.flat acc = A at *
  generalize E.f x = X at *
  have h1 : (A ++ (X ++ D)).take (A.length + j) = A ++ X.take j := by rw [List.take_length_add_append, List.take_append_of_le_length (by omega)]
  have h2 : (A ++ (X ++ D)).drop (A.length + j + vs.length) = X.drop (j + vs.length) ++ D := by rw [Nat.add_assoc, List.drop_length_add_append, List.drop_append_of_le_length (by omega)]
  rw [h1, h2]
  have h3 : A ++ X.take j ++ vs ++ (X.drop (j + vs.length) ++ D) = (A ++ (X.take j ++ vs ++ X.drop (j + vs.length))) ++ D := by simp only [List.append_assoc]
  rw [h3, List.take_left']
  simp only [List.length_append, List.length_take, List.length_drop, lx]
  omega
theorem wpList_last (w : World) {ops : Array Oper} {rest : List Oper} {o : Oper} {a : Act} {Q : Exit → Act → World → Prop} (hgd : o.guard = none) (p x : Operand) (t : TypeId) (ho : o.op = .store t p x)
    {F : Nat → Prop} {e : TypeId} {E : Enc α} {g n c off : Nat} {acc : List α} {z : α} (y : α) (own : Ow w F e E (.slice (some ⟨g, 0, none⟩) n c) (acc ++ [z])) {v : Value} {vs : List Value} {j : Nat}
    (hv : v.cells = vs.toArray) (hi : (P.info? t).map (·.size) = some vs.length) (hj : j + vs.length ≤ E.k) (hy : E.f y = (E.f z).take j ++ vs ++ (E.f z).drop (j + vs.length)) (one : ∀ v ∈ vs, v.oneCell' = true)
    (hp : a.eval p = .pointer (some ⟨g, off, none⟩)) (hx : a.eval x = v) (hoff : off = acc.length * E.k + j)
    (h : ∀ w', Ow w' F e E (.slice (some ⟨g, 0, none⟩) n c) (acc ++ [y]) → F g → Frm (fun k => k = g) w w' → w'.heap.size = w.heap.size → wpList P ops Q rest (a.put o.dst undef) w') : wpList P ops Q (o :: rest) a w := by
  subst hoff
  have hn := own.cap.1
  subst hn
  have hll : (acc ++ [z]).length = (acc ++ [y]).length := by simp
  obtain ⟨g', row, e1, B, hF, -, hnc, hc, hrs, ht⟩ := own.cases (by simp)
  simp only [Option.some.injEq, Addr.mk.injEq, and_true] at e1
  subst e1
  have hfit : (acc ++ [z]).length * E.k ≤ row.size := by rw [hrs]; exact Nat.mul_le_mul_right _ hnc
  have e2 : (acc ++ [z]).length * E.k = acc.length * E.k + E.k := by simp [Nat.add_mul]
  refine wpList_stoC (P := P) w hgd p x t ho B hv hi (by omega) one hp hx _ rfl fun w' B' f z' => h w' ?_ hF f z'
  rw [hll] at hnc ⊢
  refine Ow.row B' hF hnc hc ?_ ?_
  · simp only [List.size_toArray, rowPut, List.length_append, List.length_take, List.length_drop, Array.length_toList]
    omega
  · rw [← hll, List.toList_toArray]
    exact put_last hj hy rfl ht (by rw [Array.length_toList]; exact hfit)
end
end Go.Tt

/- Jumps back to one label. No program in sight. -/
namespace Go.Tt
set_option linter.unusedVariables false
set_option linter.unusedSimpArgs false
open Go.RowKit Go.Lib
theorem jump_ret {l : Nat} {J : Act → World → Prop} {Q : Exit → Act → World → Prop} {a : Act} {w : World} : Exit.jump l J Q .ret a w = Q .ret a w := rfl
theorem jumps_of {P : Program} {a : Act} {w : World} {Q : Exit → Act → World → Prop} {c rest : Code} (l : Nat) (J : Act → World → Prop) (μ : Act → World → Nat) (hf : findLabel c l = some (Code.skip.seq rest))
    (first : (∀ a w, J a w → rest.wp P (Exit.jump l J Q) a w) → c.wp P (Exit.jump l J Q) a w)
    (pass : ∀ a w, J a w → rest.wp P (Exit.jump l (fun a' w' => J a' w' ∧ μ a' w' < μ a w) Q) a w) : (Code.scope c).wp P Q a w :=
  wp_scope_jumps l J μ hf (first fun a w h => wp_mono (pass a w h) fun e a w he => by cases e <;> first | exact ⟨he.1, he.2.1⟩ | exact he) fun a w h => wp_seq (wp_skip (pass a w h))
end Go.Tt

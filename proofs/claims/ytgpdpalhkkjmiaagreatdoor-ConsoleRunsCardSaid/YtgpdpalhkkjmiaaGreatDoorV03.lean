/- Merged: Blk3 Blk4 Plan. -/
import Derived.Lib.AppendZerosOnto
import Derived.Lib.Overlaps
import Derived.Orders
import Derived.Tactics
import Derived.Laws.Sem
import Derived.Test.YtgpdpalhkkjmiaaGreatDoorV02
/- copy into a row, in one step; append of zeros. No program in sight. -/
namespace Go.Tt
set_option linter.unusedVariables false
set_option linter.unusedSimpArgs false
set_option linter.unusedVariables false
set_option linter.unusedSimpArgs false
open Go.RowKit Go.Lib
section
variable {P : Program} {α : Type}
/-- What a row holds behind a copy. -/
def rowPut (cur : List Value) (o : Nat) (cs : List Value) : List Value := cur.take o ++ cs ++ cur.drop (o + cs.length)
theorem run_copyk (w : World) (dT sT ty elem : TypeId) (g o dLen dCap : Nat) (a : Addr) (sLen sCap : Nat) (cur : Array Value) (t : TypeId) (cs : List Value) (k : Nat)
    (hu : P.underlying dT = some (.slice elem)) (hs : (P.info? elem).map (·.size) = some k)
    (hg : w.heap[g]? = some (.cells cur t (0, 0))) (hn : cs.length = Nat.min sLen dLen * k)
    (hsrc : ∀ j v, cs[j]? = some v → w.cell? (a.add j) = some v) (hfit : o + cs.length ≤ cur.size) (h1 : ∀ v ∈ cs, v.oneCell' = true) :
    (Builtin.copy_ #[dT, sT] ty #[.slice (some ⟨g, o, none⟩) dLen dCap, .slice (some a) sLen sCap]).run P w =
      .ok (goInt (Nat.min sLen dLen)) (w.setRow g (rowPut cur.toList o cs).toArray) := by
  have hl := run_firstCells_some (P := P) w k (Nat.min sLen dLen) a sLen sCap cs hn hsrc
  have hst := run_storeCells_at P g o t cs 0 cur w hg (by simpa using hfit) h1
  cases hq : P.info? elem with
  | none => simp [hq] at hs
  | some i =>
    have hi : i.size = k := by simpa [hq] using hs
    simp [Builtin.copy_, run_underlying hu, Builtin.lenOf, sizeOf, typeInfo, hq, hi, hl, hst, rowPut]
theorem wpList_copyk (w : World) {ops : Array Oper} {rest : List Oper} {o : Oper} {a : Act} {Q : Exit → Act → World → Prop} (hgd : o.guard = none) (d x : Operand) (dT sT elem : TypeId)
    (ho : o.op = .call { callee := .builtin .copy, args := #[d, x], argTypes := #[dT, sT] }) {g off dLen dCap : Nat} {b : Addr} {sLen sCap : Nat} {cur : Array Value} {t : TypeId} (cs : List Value) (k : Nat)
    (hu : P.underlying dT = some (.slice elem)) (hs : (P.info? elem).map (·.size) = some k)
    (hg : w.heap[g]? = some (.cells cur t (0, 0))) (hn : cs.length = Nat.min sLen dLen * k)
    (hsrc : ∀ j v, cs[j]? = some v → w.cell? (b.add j) = some v) (hfit : off + cs.length ≤ cur.size) (h1 : ∀ v ∈ cs, v.oneCell' = true)
    (hd : a.eval d = .slice (some ⟨g, off, none⟩) dLen dCap) (hx : a.eval x = .slice (some b) sLen sCap)
    (h : ∀ w', w'.heap[g]? = some (.cells (rowPut cur.toList off cs).toArray t (0, 0)) → Frm (fun k => k = g) w w' → w'.heap.size = w.heap.size → wpList P ops Q rest (a.put o.dst (goInt (Nat.min sLen dLen))) w') : wpList P ops Q (o :: rest) a w := by
  refine wpList_plain hgd fun K hK => ?_
  have hr := run_copyk (P := P) w dT sT o.type elem g off dLen dCap b sLen sCap cur t cs k hu hs hg hn hsrc hfit h1
  unfold Oper.wp execOp
  simp only [ho, resolve, invoke, builtin, Sem.run_bind, Sem.run_pure, Result.andThen_ok, List.map_toArray, List.map_cons, List.map_nil, hd, hx, hr]
  exact hK _ _ (h _ (setRow_heap w g cur _ t _ hg) ⟨rfl, rfl, rfl, by simp, fun k _ hk => setRow_other w g k _ hk⟩ (by simp))
/-- append(s, make(..)...) that does not find room. -/
theorem wpList_apz (w : World) {ops : Array Oper} {rest : List Oper} {o : Oper} {a : Act} {Q : Exit → Act → World → Prop} (hgd : o.guard = none) (s x : Operand) (t tn e : TypeId)
    (ho : o.op = .call { callee := .builtin .append, args := #[s, x], argTypes := #[t, tn] }) {kn : IntKind} (ht : P.underlying t = some (.slice e)) (htn : P.underlying tn = some (.int kn)) (z : Value) (bytes : Nat) {E : Enc α}
    (hi : (P.info? e).map (fun i => (i.zero, i.size, i.bytes)) = some (some z, E.k, bytes)) (hzs : z.cells.size = E.k) {base : Option Addr} {sLen sCap : Nat} {l : List α}
    (hold : RdS w E (.slice base sLen sCap) l) (kq : IntKind) (k : Nat) (h0 : 0 < k) (hgr : sCap < sLen + k) (hbytes : (sLen + k) * bytes ≤ 140737488355328) (h63 : sLen + k ≤ maxLen)
    (hs : a.eval s = .slice base sLen sCap) (hx : a.eval x = .int kq k)
    (h : ∀ c' w' (row : Array Value), w'.heap[w.heap.size]? = some (.cells row e (0, 0)) → row.size = c' * E.k → sLen + k ≤ c' → c' ≤ maxLen → row.toList.take (sLen * E.k) = E.flat l → Frm No w w' → w'.heap.size = w.heap.size + 1 →
      wpList P ops Q rest (a.put o.dst (.slice (some ⟨w.heap.size, 0, none⟩) (sLen + k) c')) w') : wpList P ops Q (o :: rest) a w := by
  refine wpList_plain hgd fun K hK => ?_
  obtain ⟨i, hi', hz, hk, hb⟩ := info_parts hi
  have hm : sLen + k ≤ 9223372036854775807 := by simp only [maxLen] at h63; omega
  have hr := run_append_grow_zeros (P := P) w t tn o.type e i z kq kn ht htn hi' hz base sLen sCap (E.flat l) (by rw [hk]; exact hold.drew.first) k h0 (by rw [hk]; exact E.pos) hgr (by omega)
    (by rw [hb]; refine Nat.le_trans (Nat.mul_le_mul_right _ (Nat.le_add_left k sLen)) (by omega)) (growslice_fits hgr (by rw [hb]; exact hbytes))
  have hge := grownCap_ge w (sLen + k) sCap e
  have hcm : grownCap w (sLen + k) sCap e ≤ maxLen := grownCap_le_maxLen w (sLen + k) sCap e h63
  have hl : (E.flat l).length = sLen * E.k := by rw [E.flat_len, hold.facts.1]
  unfold Oper.wp execOp
  simp only [ho, resolve, invoke, builtin, Sem.run_bind, Sem.run_pure, Result.andThen_ok, List.map_toArray, List.map_cons, List.map_nil, hs, hx, hr]
  refine hK _ _ (h _ _ _ (heap_alloc_new w.drew _) ?_ hge hcm ?_ ⟨rfl, rfl, rfl, by simp, fun j hj _ => Below.heap_alloc w.drew _ j hj⟩ (by simp))
  · simp only [Array.size_append, List.size_toArray, size_zeroCells, hzs, hl, ← Nat.add_mul]
    congr 1
    omega
  · simp only [Array.toList_append, List.append_assoc]
    rw [← hl]
    exact List.take_left
theorem rowPut_len (cur : List Value) (o : Nat) (cs : List Value) (h : o + cs.length ≤ cur.length) : (rowPut cur o cs).length = cur.length := by
  unfold rowPut
  simp only [List.length_append, List.length_take, List.length_drop]
  omega
theorem rowPut_at (cur : List Value) (o : Nat) (cs : List Value) (h : o + cs.length ≤ cur.length) (j : Nat) : (rowPut cur o cs)[j]? = if j < o then cur[j]? else if j < o + cs.length then cs[j - o]? else cur[j]? := by
  unfold rowPut
  have ht : (cur.take o).length = o := by rw [List.length_take]; omega
  by_cases h1 : j < o
  · rw [if_pos h1, List.append_assoc, List.getElem?_append_left (by omega), List.getElem?_take, if_pos h1]
  · rw [if_neg h1]
    by_cases h2 : j < o + cs.length
    · rw [if_pos h2, List.append_assoc, List.getElem?_append_right (by omega), ht, List.getElem?_append_left (by omega)]
    · rw [if_neg h2, List.getElem?_append_right (by rw [List.length_append]; omega), List.getElem?_drop]
      congr 1
      rw [List.length_append, ht]; omega
/-- Two copies, in whatever order, make an insertion. -/
theorem row_ins {E : Enc α} {l : List α} {row : List Value} {i : Nat} {x : α} (hi : i ≤ l.length) (hpre : row.take (i * E.k) = E.flat (l.take i)) (hfit : (l.length + 1) * E.k ≤ row.length) :
    (rowPut (rowPut row ((i + 1) * E.k) (E.flat (l.drop i))) (i * E.k) (E.f x)).take ((l.length + 1) * E.k) = E.flat (l.take i ++ x :: l.drop i) ∧
    (rowPut (rowPut row (i * E.k) (E.f x)) ((i + 1) * E.k) (E.flat (l.drop i))).take ((l.length + 1) * E.k) = E.flat (l.take i ++ x :: l.drop i) := by
  have hd : (E.flat (l.drop i)).length = (l.length - i) * E.k := by rw [E.flat_len, List.length_drop]
  have hx : (E.f x).length = E.k := E.len x
  have hs : (i + 1) * E.k = i * E.k + E.k := by rw [Nat.add_mul, Nat.one_mul]
  have hsum : (i + 1) * E.k + (l.length - i) * E.k = (l.length + 1) * E.k := by rw [← Nat.add_mul]; congr 1; omega
  have htl : (E.flat (l.take i)).length = i * E.k := by rw [E.flat_len, List.length_take, Nat.min_eq_left hi]
  have hrow : row.length = (l.length + 1) * E.k + (row.length - (l.length + 1) * E.k) := by omega
  have goal : ∀ R : List Value, R.length = row.length → (∀ j, j < i * E.k → R[j]? = row[j]?) → (∀ j, j < E.k → R[i * E.k + j]? = (E.f x)[j]?) → (∀ j, j < (l.length - i) * E.k → R[(i + 1) * E.k + j]? = (E.flat (l.drop i))[j]?) →
      R.take ((l.length + 1) * E.k) = E.flat (l.take i ++ x :: l.drop i) := by
    intro R hl h1 h2 h3
    rw [E.flat_append, E.flat_cons]
    apply List.ext_getElem?
    intro j
    rw [List.getElem?_take]
    by_cases hj : j < (l.length + 1) * E.k
    · rw [if_pos hj]
      by_cases c1 : j < i * E.k
      · rw [h1 j c1, List.getElem?_append_left (by omega), ← hpre, List.getElem?_take, if_pos c1]
      · rw [List.getElem?_append_right (by omega), htl]
        by_cases c2 : j < (i + 1) * E.k
        · rw [List.getElem?_append_left (by omega), ← h2 _ (by omega)]
          congr 1; omega
        · rw [List.getElem?_append_right (by omega), hx, ← h3 _ (by omega)]
          congr 1; omega
    · rw [if_neg hj]
      exact (List.getElem?_eq_none (by simp only [List.length_append]; omega)).symm
  have hl1 : ((i + 1) * E.k + (E.flat (l.drop i)).length ≤ row.length) := by omega
  have hl2 : (i * E.k + (E.f x).length ≤ row.length) := by omega
  constructor
  · have a1 := rowPut_len row _ _ hl1
    have a2 : i * E.k + (E.f x).length ≤ (rowPut row ((i + 1) * E.k) (E.flat (l.drop i))).length := by omega
    refine goal _ (by rw [rowPut_len _ _ _ a2, a1]) (fun j hj => ?_) (fun j hj => ?_) (fun j hj => ?_)
    · rw [rowPut_at _ _ _ a2, if_pos hj, rowPut_at _ _ _ hl1, if_pos (by omega)]
    · rw [rowPut_at _ _ _ a2, if_neg (by omega), if_pos (by omega), Nat.add_sub_cancel_left]
    · rw [rowPut_at _ _ _ a2, if_neg (by omega), if_neg (by omega), rowPut_at _ _ _ hl1, if_neg (by omega), if_pos (by omega), Nat.add_sub_cancel_left]
  · have a1 := rowPut_len row _ _ hl2
    have a2 : (i + 1) * E.k + (E.flat (l.drop i)).length ≤ (rowPut row (i * E.k) (E.f x)).length := by omega
    refine goal _ (by rw [rowPut_len _ _ _ a2, a1]) (fun j hj => ?_) (fun j hj => ?_) (fun j hj => ?_)
    · rw [rowPut_at _ _ _ a2, if_pos (by omega), rowPut_at _ _ _ hl2, if_pos hj]
    · rw [rowPut_at _ _ _ a2, if_pos (by omega), rowPut_at _ _ _ hl2, if_neg (by omega), if_pos (by omega), Nat.add_sub_cancel_left]
    · rw [rowPut_at _ _ _ a2, if_neg (by omega), if_pos (by omega), Nat.add_sub_cancel_left]
/-- A row that holds a list is the call's own. -/
theorem Ow.row {w : World} {F : Nat → Prop} {e : TypeId} {E : Enc α} {g c : Nat} {row : Array Value} {l : List α} (hg : w.heap[g]? = some (.cells row e (0, 0))) (hF : F g) (hn : l.length ≤ c) (hc : c ≤ maxLen) (hr : row.size = c * E.k) (ht : row.toList.take (l.length * E.k) = E.flat l) :
    Ow w F e E (.slice (some ⟨g, 0, none⟩) l.length c) l :=
  .inr ⟨⟨E.flat_len l, .inr ⟨g, c, row, rfl, Nat.zero_le _, hg, hn, hc, hr, ht⟩⟩, fun g' hg' => by obtain rfl := Option.some.inj hg'; exact hF⟩
theorem Ow.cases {w : World} {F : Nat → Prop} {e : TypeId} {E : Enc α} {a : Option Addr} {n c : Nat} {l : List α} (h : Ow w F e E (.slice a n c) l) (hn : 0 < n) :
    ∃ g row, a = some ⟨g, 0, none⟩ ∧ w.heap[g]? = some (.cells row e (0, 0)) ∧ F g ∧ n = l.length ∧ n ≤ c ∧ c ≤ maxLen ∧ row.size = c * E.k ∧ row.toList.take (l.length * E.k) = E.flat l := by
  rcases h with ⟨a', h1, rfl⟩ | ⟨⟨h1, h2⟩, hF⟩
  · simp only [Value.slice.injEq] at h1; omega
  · rcases h2 with ⟨h2, _⟩ | ⟨g, cap, row, h2, _, hg, hn', hm, hs, ht⟩
    · simp only [Value.slice.injEq] at h2; omega
    · simp only [Value.slice.injEq] at h2
      obtain ⟨rfl, rfl, rfl⟩ := h2
      exact ⟨g, row, rfl, hg, hF g rfl, rfl, hn', hm, hs, ht⟩
/-- The footprint F, cut to blocks of one element type. -/
def Ty (w : World) (e : TypeId) (F : Nat → Prop) (k : Nat) : Prop := F k ∧ ∃ row fz, w.heap[k]? = some (.cells row e fz)
theorem Ow.ty {w : World} {F : Nat → Prop} {e : TypeId} {E : Enc α} {v : Value} {l : List α} (h : Ow w F e E v l) : Ow w (Ty w e F) e E v l := by
  rcases h with h | ⟨h, hF⟩
  · exact .inl h
  · refine .inr ⟨h, fun g hg => ⟨hF g hg, ?_⟩⟩
    rcases h.2 with ⟨rfl, _⟩ | ⟨g', cap, cur, rfl, _, hgg, _⟩
    · simp [Value.ownBlock] at hg
    · obtain rfl := Option.some.inj hg
      exact ⟨_, _, hgg⟩
theorem Ty.apart {w : World} {e e' : TypeId} {F G : Nat → Prop} (hne : e ≠ e') {k : Nat} (h : Ty w e F k) : ¬ Ty w e' G k := by
  rintro ⟨-, row', fz', h'⟩
  obtain ⟨-, row, fz, h⟩ := h
  rw [h] at h'
  simp at h'
  exact hne h'.2.1
end
end Go.Tt

/- A struct stored into a row; a row cleared. No program in sight. -/
namespace Go.Tt
set_option linter.unusedVariables false
set_option linter.unusedSimpArgs false
open Go.RowKit Go.Lib
section
variable {P : Program} {α : Type}
theorem run_stoAt (w : World) {b off : Nat} {cur : Array Value} {vs : List Value} {t e : TypeId} (hB : w.heap[b]? = some (.cells cur e (0, 0))) (hi : (P.info? t).map (·.size) = some vs.length) (hl : off + vs.length ≤ cur.size) (one : ∀ v ∈ vs, v.oneCell' = true) :
    (Instr.storeAt t (.pointer (some ⟨b, off, none⟩)) (.agg vs.toArray)).run P w = .ok () (w.setRow b (rowPut cur.toList off vs).toArray) := by
  obtain ⟨i, hi', hs⟩ := Option.map_eq_some_iff.1 hi
  have hst := run_storeCells_at P b off e vs 0 cur w hB (by omega) one
  simp only [Nat.add_zero] at hst
  simp [Instr.storeAt, Instr.sureAddr, storeVar, sizeOf, typeInfo, hi', hs, Value.cells, hst, rowPut]
theorem wpList_stoAt (w : World) {ops : Array Oper} {rest : List Oper} {o : Oper} {a : Act} {Q : Exit → Act → World → Prop} (hgd : o.guard = none) (p x : Operand) (t : TypeId) (ho : o.op = .store t p x)
    {b off : Nat} {cur : Array Value} {vs : List Value} {e : TypeId} (hB : w.heap[b]? = some (.cells cur e (0, 0))) (hi : (P.info? t).map (·.size) = some vs.length) (hl : off + vs.length ≤ cur.size) (one : ∀ v ∈ vs, v.oneCell' = true)
    (hp : a.eval p = .pointer (some ⟨b, off, none⟩)) (hx : a.eval x = .agg vs.toArray)
    (h : ∀ w', w'.heap[b]? = some (.cells (rowPut cur.toList off vs).toArray e (0, 0)) → Frm (fun k => k = b) w w' → w'.heap.size = w.heap.size → wpList P ops Q rest (a.put o.dst undef) w') : wpList P ops Q (o :: rest) a w := by
  refine wpList_plain hgd fun K hK => ?_
  have hr := run_stoAt (P := P) w hB hi hl one
  unfold Oper.wp
  simp [execOp, ho, hp, hx, hr, Result.andThen]
  exact hK _ _ (h _ (setRow_heap w b cur _ e _ hB) ⟨rfl, rfl, rfl, by simp, fun k _ hk => setRow_other w b k _ hk⟩ (by simp))
theorem wpList_clr (w : World) {ops : Array Oper} {rest : List Oper} {o : Oper} {a : Act} {Q : Exit → Act → World → Prop} (hgd : o.guard = none) (x : Operand) (t e : TypeId)
    (ho : o.op = .call { callee := .builtin .clear, args := #[x], argTypes := #[t] }) (ht : P.underlying t = some (.slice e)) {z : Value} (hz : ∀ w, (zeroValue e).run P w = .ok z w)
    {b off n c : Nat} {cur : Array Value} (one : ∀ v ∈ (Builtin.zeroCells z.cells n).toList, v.oneCell' = true) (hn : 0 < n) (hB : w.heap[b]? = some (.cells cur e (0, 0))) (hl : off + (Builtin.zeroCells z.cells n).size ≤ cur.size) (hx : a.eval x = .slice (some ⟨b, off, none⟩) n c)
    (h : ∀ w', w'.heap[b]? = some (.cells (rowPut cur.toList off (Builtin.zeroCells z.cells n).toList).toArray e (0, 0)) → Frm (fun k => k = b) w w' → w'.heap.size = w.heap.size → wpList P ops Q rest (a.put o.dst (.tuple #[])) w') : wpList P ops Q (o :: rest) a w := by
  refine wpList_plain hgd fun K hK => ?_
  have hst := run_storeCells_at P b off e (Builtin.zeroCells z.cells n).toList 0 cur w hB (by simpa using hl) one
  simp only [Nat.add_zero] at hst
  obtain ⟨m, rfl⟩ : ∃ m, n = m + 1 := ⟨n - 1, by omega⟩
  have hr : (Builtin.clear_ #[t] o.type #[.slice (some ⟨b, off, none⟩) (m + 1) c]).run P w = .ok (.tuple #[]) (w.setRow b (rowPut cur.toList off (Builtin.zeroCells z.cells (m + 1)).toList).toArray) := by
    simp [Builtin.clear_, run_underlying ht, hz, hst, rowPut]
  unfold Oper.wp execOp
  simp only [ho, resolve, invoke, builtin, Sem.run_bind, Sem.run_pure, Result.andThen_ok, List.map_toArray, List.map_cons, List.map_nil, hx, hr]
  exact hK _ _ (h _ (setRow_heap w b cur _ e _ hB) ⟨rfl, rfl, rfl, by simp, fun k _ hk => setRow_other w b k _ hk⟩ (by simp))
theorem row_app {E : Enc α} {row : List Value} {i : Nat} {x : α} {fl : List α} (hfl : fl.length = i) (ht : row.take (i * E.k) = E.flat fl) (hfit : (i + 1) * E.k ≤ row.length) :
    (rowPut row (i * E.k) (E.f x)).take ((i + 1) * E.k) = E.flat (fl ++ [x]) ∧ ∀ m, (i + 1) * E.k ≤ m → (rowPut row (i * E.k) (E.f x))[m]? = row[m]? := by
  have hx : (E.f x).length = E.k := E.len x
  have hs : (i + 1) * E.k = i * E.k + E.k := by rw [Nat.add_mul, Nat.one_mul]
  have hl : i * E.k + (E.f x).length ≤ row.length := by omega
  have htl : (E.flat fl).length = i * E.k := by rw [E.flat_len, hfl]
  constructor
  · rw [E.flat_append, E.flat_one]
    apply List.ext_getElem?
    intro j
    rw [List.getElem?_take]
    by_cases hj : j < (i + 1) * E.k
    · rw [if_pos hj, rowPut_at _ _ _ hl]
      by_cases c1 : j < i * E.k
      · rw [if_pos c1, List.getElem?_append_left (by omega), ← ht, List.getElem?_take, if_pos c1]
      · rw [if_neg c1, if_pos (by omega), List.getElem?_append_right (by omega), htl]
    · rw [if_neg hj]
      exact (List.getElem?_eq_none (by simp only [List.length_append]; omega)).symm
  · intro m hm
    rw [rowPut_at _ _ _ hl, if_neg (by omega), if_neg (by omega)]
/-- What a row holds ahead of a store stands. -/
theorem row_keep {row cs : List Value} {o k : Nat} (hl : o + cs.length ≤ row.length) (hk : k ≤ o) : (rowPut row o cs).take k = row.take k := by
  apply List.ext_getElem?
  intro j
  rw [List.getElem?_take, List.getElem?_take]
  by_cases hj : j < k
  · rw [if_pos hj, if_pos hj, rowPut_at _ _ _ hl, if_pos (by omega)]
  · rw [if_neg hj, if_neg hj]
end
end Go.Tt

/- A region that draws its order, walked in ONE order, first part: operations that leave the world alone. -/
namespace Go.Tt
set_option linter.unusedVariables false
set_option linter.unusedSimpArgs false

def SConst {α : Type} (P : Program) (s : Sem α) : Prop := ∀ w x w', s.run P w = .ok x w' → w' = w ∧ ∀ w2, s.run P w2 = .ok x w2
def SKeep {α : Type} (P : Program) (s : Sem α) : Prop := ∀ w x w', s.run P w = .ok x w' → w' = w

/-- A type of which 'len' reads no memory. -/
def lenTy (P : Program) (t : TypeId) : Bool := match P.underlying t with | some .string => true | some (.slice _) => true | _ => false

section
variable {P : Program} {α β : Type}
theorem sc_keep {s : Sem α} (h : SConst P s) : SKeep P s := fun w x w' hr => (h w x w' hr).1
theorem sc_pure (x : α) : SConst P (pure x : Sem α) := fun w y w' h => by
  simp at h
  obtain ⟨rfl, rfl⟩ := h
  exact ⟨rfl, fun w2 => by simp⟩
theorem sc_halt (h : Halt) : SConst P (Sem.halt h : Sem α) := fun w y w' hr => by simp [Sem.run] at hr
theorem sc_stuck (s : String) : SConst P (stuck s : Sem α) := sc_halt _
theorem sc_unsupported (u : Unsupported) : SConst P (unsupported u : Sem α) := sc_halt _
theorem andThen_ok_inv {γ : Type} {r : Result γ} {f : γ → World → Result β} {y : β} {w' : World} (h : r.andThen f = .ok y w') : ∃ x w1, r = .ok x w1 ∧ f x w1 = .ok y w' := by
  cases r with
  | ok x w1 => exact ⟨x, w1, rfl, h⟩
  | halt x w1 => simp [Result.andThen] at h
theorem sc_bind {s : Sem α} {f : α → Sem β} (h : SConst P s) (hf : ∀ x, SConst P (f x)) : SConst P (s >>= f) := fun w y w' hr => by
  rw [Sem.run_bind] at hr
  obtain ⟨x, w1, h1, h2⟩ := andThen_ok_inv hr
  obtain ⟨rfl, h3⟩ := h w x w1 h1
  obtain ⟨rfl, h4⟩ := hf x _ y w' h2
  exact ⟨rfl, fun w2 => by rw [Sem.run_bind, h3 w2]; exact h4 w2⟩
theorem sk_bind {s : Sem α} {f : α → Sem β} (h : SKeep P s) (hf : ∀ x, SKeep P (f x)) : SKeep P (s >>= f) := fun w y w' hr => by
  rw [Sem.run_bind] at hr
  obtain ⟨x, w1, h1, h2⟩ := andThen_ok_inv hr
  obtain rfl := h w x w1 h1
  exact hf x _ y w' h2
theorem sc_never {s : Sem α} (h : ∀ w x w', s.run P w ≠ .ok x w') : SConst P s := fun w x w' hr => absurd hr (h w x w')
theorem sc_program : SConst P program := fun w x w' h => by
  simp [Go.program, Sem.run] at h
  obtain ⟨rfl, rfl⟩ := h
  exact ⟨rfl, fun w2 => by simp [Go.program, Sem.run]⟩
theorem sc_typeInfo (t : TypeId) : SConst P (typeInfo t) := sc_bind sc_program fun p => by
  split
  · exact sc_pure _
  · exact sc_halt _
theorem sc_underlying (t : TypeId) : SConst P (underlying t) := sc_bind sc_program fun p => by
  split
  · exact sc_pure _
  · exact sc_halt _
theorem sc_under {t : TypeId} {d : TypeDesc} (hu : P.underlying t = some d) {f : TypeDesc → Sem β} (hf : SConst P (f d)) : SConst P (underlying t >>= f) := by
  have key : ∀ w, (underlying t >>= f).run P w = (f d).run P w := fun w => by rw [Sem.run_bind, run_underlying hu]; rfl
  intro w y w' hr
  rw [key] at hr
  obtain ⟨h1, h2⟩ := hf w y w' hr
  exact ⟨h1, fun w2 => by rw [key, h2]⟩
theorem sc_sizeOf (t : TypeId) : SConst P (Go.sizeOf t) := sc_bind (sc_typeInfo t) fun _ => sc_pure _
theorem sc_isAgg (t : TypeId) : SConst P (isAgg t) := sc_bind (sc_underlying t) fun _ => by split <;> exact sc_pure _
theorem sc_asBool (v : Value) : SConst P (asBool v) := by cases v <;> first | exact sc_pure _ | exact sc_halt _
theorem sc_asIntOf (v : Value) : SConst P (asIntOf v) := by
  cases v with
  | int k n => exact sc_pure _
  | pointer a => cases a <;> exact sc_halt _
  | _ => exact sc_halt _
theorem sc_sureAddr (v : Value) : SConst P (Instr.sureAddr v) := by
  cases v with
  | pointer a => cases a <;> first | exact sc_pure _ | exact sc_halt _
  | _ => exact sc_halt _
theorem runtimePanic_never (e : RuntimeError) (w : World) (x : α) (w' : World) : (runtimePanic e : Sem α).run P w ≠ .ok x w' := by
  intro h
  unfold runtimePanic at h
  rw [Sem.run_bind] at h
  obtain ⟨p, w1, h1, h2⟩ := andThen_ok_inv h
  cases e <;> simp [goPanic, Sem.run] at h2
  all_goals
    obtain ⟨_, _, _, h2⟩ := andThen_ok_inv h2
    try obtain ⟨_, _, _, h2⟩ := andThen_ok_inv h2
    simp at h2
theorem sc_runtimePanic (e : RuntimeError) : SConst P (runtimePanic e : Sem α) := sc_never (runtimePanic_never e)
theorem boundsPanic_never (k : IntKind) (x y : Int) (c : BoundsCode) (w : World) (v : α) (w' : World) : (boundsPanic k x y c : Sem α).run P w ≠ .ok v w' := by
  intro h
  unfold boundsPanic at h
  split at h
  · simp only [Sem.run_bind] at h
    obtain ⟨_, _, _, h2⟩ := andThen_ok_inv h
    exact runtimePanic_never _ _ _ _ h2
  · simp only [Sem.run_bind] at h
    obtain ⟨_, _, _, h2⟩ := andThen_ok_inv h
    exact runtimePanic_never _ _ _ _ h2
theorem sc_boundsPanic (k : IntKind) (x y : Int) (c : BoundsCode) : SConst P (boundsPanic k x y c : Sem α) := sc_never (boundsPanic_never k x y c)
theorem sc_ite {c : Prop} [Decidable c] {s t : Sem α} (hs : SConst P s) (ht : SConst P t) : SConst P (if c then s else t) := by split <;> assumption
theorem sc_indexAt (t : TypeId) (x i : Value) : SConst P (Instr.indexAt t x i) := by
  unfold Instr.indexAt
  refine sc_bind (sc_asIntOf i) fun ki => ?_
  refine sc_bind (sc_underlying t) fun d => ?_
  have tail : ∀ (r : Option Addr × Nat × TypeId) (tiny : Bool), SConst P (match r.1 with
      | some a => if 0 ≤ ki.2 ∧ ki.2 < r.2.1 then (do let n ← Go.sizeOf r.2.2; pure (Value.pointer (some (a.add (ki.2.toNat * n)))))
        else if tiny = true then unsupported (.noEntry "op/indexAddr.an index out of range at an array of length 0 or 1 (ledger 616)") else boundsPanic ki.1 ki.2 r.2.1 .index
      | none => boundsPanic ki.1 ki.2 0 .index : Sem Value) := by
    intro r tiny
    split
    · exact sc_ite (sc_bind (sc_sizeOf _) fun _ => sc_pure _) (sc_ite (sc_halt _) (sc_boundsPanic _ _ _ _))
    · exact sc_boundsPanic _ _ _ _
  dsimp only
  split
  · refine sc_bind (sc_sureAddr _) fun a => sc_bind (sc_pure _) fun r => ?_
    obtain ⟨b, l, e⟩ := r
    exact sc_bind (sc_underlying t) fun d => tail (b, l, e) _
  · refine sc_bind (sc_pure _) fun r => ?_
    obtain ⟨b, l, e⟩ := r
    exact sc_bind (sc_underlying t) fun d => tail (b, l, e) _
  · refine sc_bind (sc_halt _) fun r => ?_
    obtain ⟨b, l, e⟩ := r
    exact sc_bind (sc_underlying t) fun d => tail (b, l, e) _
theorem sc_sliceBound (x : Value) (y : Nat) (c : BoundsCode) : SConst P (Instr.sliceBound x y c) := by
  unfold Instr.sliceBound
  exact sc_bind (sc_asIntOf x) fun ki => sc_ite (sc_pure _) (sc_boundsPanic _ _ _ _)
theorem sc_sliceBounds (b : Bool) (len cap : Nat) (lo hi mx : Option Value) : SConst P (Instr.sliceBounds b len cap lo hi mx) := by
  unfold Instr.sliceBounds
  cases mx <;> cases hi <;> cases lo <;> dsimp only <;>
    repeat (first | exact sc_pure _ | exact sc_halt _ | exact sc_sliceBound _ _ _ | refine sc_bind (sc_sliceBound _ _ _) fun _ => ?_ | refine sc_bind (sc_pure _) fun _ => ?_ | refine sc_bind (sc_halt _) fun _ => ?_)
theorem sc_asAddr (v : Value) : SConst P (asAddr v) := by
  cases v with
  | pointer a => cases a with
    | none => exact (sc_runtimePanic RuntimeError.nilDeref : SConst P (runtimePanic RuntimeError.nilDeref : Sem Addr))
    | some a => exact sc_pure _
  | _ => exact sc_halt _
theorem sc_slice (t : TypeId) (x : Value) (lo hi mx : Option Value) : SConst P (Instr.slice t x lo hi mx) := by
  unfold Instr.slice
  refine sc_bind (sc_underlying t) fun d => ?_
  split
  · split
    · exact sc_bind (sc_halt _) fun _ => sc_bind (sc_sliceBounds _ _ _ _ _ _) fun _ => sc_pure _
    · exact sc_bind (sc_sliceBounds _ _ _ _ _ _) fun _ => sc_pure _
  · exact sc_bind (sc_sliceBounds _ _ _ _ _ _) fun _ => sc_bind (sc_sizeOf _) fun _ => sc_pure _
  · refine sc_bind (sc_asAddr _) fun a => sc_bind (sc_underlying _) fun d => ?_
    split
    · exact sc_bind (sc_sliceBounds _ _ _ _ _ _) fun _ => sc_bind (sc_sizeOf _) fun _ => sc_pure _
    · exact sc_halt _
  · exact sc_halt _
theorem sc_sliceAt (t : TypeId) (x : Value) (lo hi mx : Option Value) : SConst P (Instr.sliceAt t x lo hi mx) := by
  unfold Instr.sliceAt
  refine sc_bind (sc_underlying t) fun d => ?_
  split
  · exact sc_bind (sc_sureAddr _) fun _ => sc_bind (sc_sliceBounds _ _ _ _ _ _) fun _ => sc_bind (sc_sizeOf _) fun _ => sc_pure _
  · exact sc_slice _ _ _ _ _
theorem sc_extract (t : Value) (i : Nat) : SConst P (Instr.extract t i) := by
  unfold Instr.extract
  split
  · split
    · exact sc_pure _
    · exact sc_halt _
  · exact sc_halt _
theorem sc_part (t : TypeId) (cs : Array Value) (off : Nat) : SConst P (part t cs off) := by
  unfold Go.part
  refine sc_bind (sc_isAgg t) fun b => ?_
  split
  · exact sc_bind (sc_sizeOf _) fun _ => sc_pure _
  · split
    · exact sc_pure _
    · exact sc_halt _
theorem sc_asAgg (v : Value) : SConst P (asAgg v) := by cases v <;> first | exact sc_pure _ | exact sc_halt _
theorem sc_field (t : TypeId) (x : Value) (i : Nat) : SConst P (Instr.field t x i) := by
  unfold Instr.field
  refine sc_bind (sc_underlying t) fun d => ?_
  split
  · split
    · exact sc_bind (sc_asAgg _) fun _ => sc_part _ _ _
    · exact sc_halt _
  · exact sc_halt _
theorem sc_len {t : TypeId} (ht : lenTy P t = true) (ty : TypeId) (vs : Array Value) : SConst P (Builtin.len_ #[t] ty vs) := by
  unfold Builtin.len_
  have e0 : (#[t] : Array TypeId)[0]? = some t := rfl
  simp only [e0]
  cases hx : vs[0]? with
  | none => exact sc_halt _
  | some x =>
    dsimp only
    cases hu : P.underlying t with
    | none => simp [lenTy, hu] at ht
    | some d =>
      refine sc_under hu ?_
      cases d <;> first
        | (simp [lenTy, hu] at ht; done)
        | (cases x <;> first | exact sc_pure _ | exact sc_halt _)
theorem sk_load (a : Addr) : SKeep P (Go.load a) := fun w x w' h => by
  simp only [Go.load, Sem.run] at h
  split at h
  · simp at h; exact h.2.symm
  · split at h
    · simp at h; exact h.2.symm
    · simp at h
theorem sk_loadCellsFrom (a : Addr) : ∀ (n i : Nat) (acc : Array Value), SKeep P (loadCellsFrom a i n acc)
  | 0, _, _ => sc_keep (sc_pure _)
  | n + 1, _, _ => sk_bind (sk_load _) fun _ => sk_loadCellsFrom a n _ _
theorem sk_loadVar (t : TypeId) (a : Addr) : SKeep P (loadVar t a) := by
  unfold Go.loadVar
  refine sk_bind (sc_keep (sc_isAgg t)) fun b => ?_
  split
  · exact sk_bind (sc_keep (sc_sizeOf t)) fun _ => sk_bind (sk_loadCellsFrom _ _ _ _) fun _ => sc_keep (sc_pure _)
  · exact sk_load _
theorem sk_loadAt (t : TypeId) (v : Value) : SKeep P (Instr.loadAt t v) := sk_bind (sc_keep (sc_sureAddr v)) fun _ => sk_loadVar _ _
theorem sc_fieldAt {s : TypeId} {f : Nat} {fs : Array Field} {g : Field} (hs : P.underlying s = some (.struct fs)) (hg : fs[f]? = some g) (hz : (P.info? g.type).any (·.size != 0) = true) (v : Value) : SConst P (Instr.fieldAt s v f) := by
  intro w x w' h
  obtain ⟨i, hi, hn⟩ : ∃ i, P.info? g.type = some i ∧ i.size ≠ 0 := by
    cases hi : P.info? g.type with
    | none => simp [hi] at hz
    | some i => exact ⟨i, rfl, by simpa [hi] using hz⟩
  have key : ∀ w, (Instr.fieldAt s v f).run P w = ((Instr.sureAddr v).run P w).andThen fun a w' => .ok (.pointer (some (a.add g.offset))) w' := by
    intro w
    simp [Instr.fieldAt, run_underlying hs, hg, fieldPlace, Go.sizeOf, Go.typeInfo, hi, hn]
  rw [key] at h
  obtain ⟨a, w1, h1, h2⟩ := andThen_ok_inv h
  obtain ⟨rfl, h3⟩ := sc_sureAddr v w a w1 h1
  simp at h2
  obtain ⟨rfl, rfl⟩ := h2
  exact ⟨rfl, fun w2 => by rw [key, h3 w2]; rfl⟩
theorem sc_followBlind : ∀ (p : List FieldStep) (t : TypeId) (x : Option Value), SConst P (followBlind p t x)
  | [], _, _ => sc_pure _
  | s :: rest, t, x => by
    unfold followBlind
    refine sc_bind (sc_underlying _) fun d => ?_
    split
    · split
      · split
        · exact sc_pure _
        · exact sc_followBlind rest _ _
        · exact sc_halt _
        · exact sc_pure _
        · exact sc_bind (sc_part _ _ _) fun _ => sc_followBlind rest _ _
        · exact sc_halt _
        · exact sc_followBlind rest _ _
      · exact sc_halt _
    · exact sc_halt _
theorem sc_nilAhead : ∀ (n : Nat) (t : TypeId) (v : Value) (name : String), SConst P (nilAhead n t v name)
  | 0, _, _, _ => sc_pure _
  | n + 1, t, v, name => by
    unfold nilAhead
    refine sc_bind (sc_typeInfo _) fun i => ?_
    split
    · refine sc_bind (sc_followBlind _ _ _) fun r => ?_
      split
      · exact sc_pure _
      · split
        · exact sc_nilAhead n _ _ _
        · exact sc_pure _
        · exact sc_halt _
        · exact sc_pure _
        · exact sc_pure _
        · refine sc_bind (sc_underlying _) fun d => ?_
          split <;> exact sc_pure _
    · exact sc_halt _
end

/-- 2: one value in every world; 1: the world stands; 0: nothing is known. -/
def opCls (P : Program) (op : Op) : Nat :=
  match op with
  | .move _ | .assign _ | .nilCheck _ | .pick .. | .indexAddr .. | .slice .. | .extract .. | .field .. => 2
  | .fieldAddr s _ f => match P.underlying s with
    | some (.struct fs) => match fs[f]? with
      | some g => if (P.info? g.type).any (·.size != 0) then 2 else 0
      | none => 0
    | _ => 0
  | .load .. => 1
  | .call { callee := .builtin .len, args := _, argTypes := ⟨[t]⟩ } => if lenTy P t then 2 else 0
  | _ => 0

section
variable {P : Program}
theorem const_v {s : Sem Value} (h : SConst P s) : SConst P (do pure (Next.value (← s)) : Sem Next) := sc_bind h fun _ => sc_pure _
theorem opCls_const {ρ : Operand → Value} {o : Oper} (h : opCls P o.op = 2) : SConst P (execOp ρ o) := by
  obtain ⟨dst, op, type, pos, after, guard⟩ := o
  unfold opCls at h
  dsimp only at h
  split at h <;> try (simp at h; done)
  · exact sc_pure _
  · exact sc_pure _
  · simp only [execOp]
    split
    · exact sc_runtimePanic _
    · exact sc_runtimePanic _
    · exact sc_runtimePanic _
    · split
      · exact sc_runtimePanic _
      · refine sc_bind sc_program fun p => sc_bind (sc_nilAhead _ _ _ _) fun r => ?_
        split
        · exact sc_bind (sc_halt _) fun _ => sc_pure _
        · exact sc_pure _
      · exact sc_pure _
    · exact sc_pure _
  · exact sc_bind (sc_asBool _) fun _ => sc_pure _
  · exact const_v (sc_indexAt _ _ _)
  · exact const_v (sc_sliceAt _ _ _ _ _)
  · exact sc_bind (sc_extract _ _) fun _ => sc_pure _
  · exact const_v (sc_field _ _ _)
  · split at h
    · rename_i fs hs
      split at h
      · rename_i g hg
        split at h
        · rename_i hz
          exact const_v (sc_fieldAt hs hg hz _)
        · simp at h
      · simp at h
    · simp at h
  · split at h
    · rename_i args ts hz
      exact const_v (sc_len hz type (args.map ρ))
    · simp at h
theorem keep_v {s : Sem Value} (h : SKeep P s) : SKeep P (do pure (Next.value (← s)) : Sem Next) := sk_bind h fun _ => sc_keep (sc_pure _)
theorem opCls_load {ρ : Operand → Value} {o : Oper} (h : opCls P o.op = 1) : SKeep P (execOp ρ o) := by
  obtain ⟨dst, op, type, pos, after, guard⟩ := o
  unfold opCls at h
  dsimp only at h
  split at h <;> try (simp at h; done)
  · repeat (split at h <;> try (simp at h; done))
  · exact keep_v (sk_loadAt _ _)
  · split at h <;> simp at h
/-- What a quiet operation ends in. -/
theorem opCls_value {ρ : Operand → Value} {o : Oper} (h : opCls P o.op ≠ 0) {w w' : World} {n : Next} (hr : (execOp ρ o).run P w = .ok n w') : ∃ v, n = .value v := by
  have key : ∀ {s : Sem Value}, (do pure (Next.value (← s)) : Sem Next).run P w = .ok n w' → ∃ v, n = .value v := fun {s} hr => by
    rw [Sem.run_bind] at hr
    obtain ⟨x, w1, _, h2⟩ := andThen_ok_inv hr
    simp at h2
    exact ⟨x, h2.1.symm⟩
  obtain ⟨dst, op, type, pos, after, guard⟩ := o
  unfold opCls at h
  dsimp only at h
  split at h
  · simp [execOp] at hr; exact ⟨_, hr.1.symm⟩
  · simp [execOp] at hr; exact ⟨_, hr.1.symm⟩
  · simp only [execOp] at hr
    split at hr
    · exact absurd hr (runtimePanic_never _ _ _ _)
    · exact absurd hr (runtimePanic_never _ _ _ _)
    · exact absurd hr (runtimePanic_never _ _ _ _)
    · split at hr
      · exact absurd hr (runtimePanic_never _ _ _ _)
      · rw [Sem.run_bind] at hr
        obtain ⟨_, _, _, hr⟩ := andThen_ok_inv hr
        rw [Sem.run_bind] at hr
        obtain ⟨_, _, _, hr⟩ := andThen_ok_inv hr
        split at hr
        · rw [Sem.run_bind] at hr
          obtain ⟨_, _, h1, _⟩ := andThen_ok_inv hr
          simp [unsupported, Sem.run] at h1
        · simp at hr; exact ⟨_, hr.1.symm⟩
      · simp at hr; exact ⟨_, hr.1.symm⟩
    · simp at hr; exact ⟨_, hr.1.symm⟩
  · exact key (s := do pure (if ← asBool (ρ _) then ρ _ else ρ _)) (by simpa [execOp] using hr)
  · exact key hr
  · exact key hr
  · exact key (s := Instr.extract _ _) hr
  · exact key hr
  · exact key (s := Instr.fieldAt _ _ _) hr
  · exact key hr
  · exact key (s := Builtin.len_ _ _ _) hr
  · exact absurd rfl h
end
end Go.Tt

/- Sets: orset.Put, what may not be put. -/
import Derived.Test.YtheejjifcpjdbaaPut
namespace Go.Proofs.Ytheejjifcpjdbaa
set_option linter.unusedVariables false
set_option linter.unusedSimpArgs false
open Go.RowKit Go.Lib Go.Tt Go.Shelf
/-- The empty cell. -/
def zval : Value := .agg #[.int .i64 0, .bool false, .int .i64 0, .int .i64 0, .string ⟨#[]⟩, .int .i64 0, .int .i64 0, .slice none 0 0, .slice none 0 0, .slice none 0 0]
def zlist : List Value := [.int .i64 0, .bool false, .int .i64 0, .int .i64 0, .string ⟨#[]⟩, .int .i64 0, .int .i64 0, .slice none 0 0, .slice none 0 0, .slice none 0 0]
theorem zone : ∀ u ∈ zlist, u.oneCell' = true := by
  intro u hu
  simp only [zlist, List.mem_cons, List.not_mem_nil, or_false] at hu
  rcases hu with rfl | rfl | rfl | rfl | rfl | rfl | rfl | rfl | rfl | rfl <;> rfl
set_option maxHeartbeats 1000000 in
set_option maxRecDepth 100000 in
theorem put_bad {w : World} {c : CellV} {ve vl vs : Value} (h : CellR w c ve vl vs) (d : Dt) (v : ByteArray) (hvm : v.size ≤ maxLen) (hbad : c.kind ≠ 2 ∨ dotMay d = false ∨ 256 < v.size ∨ ∃ e ∈ c.ents, (e.1, e.2.1) = d) :
    Calls Try.prog 41 #[cval c ve vl vs, .agg #[.int .i64 d.1, .int .i64 d.2], .string v] w fun e w' => e = .returned (.tuple #[zval, .int .i64 900]) ∧ Frm No w w' := by
  obtain ⟨he, hl, hs⟩ := h
  have HR := Lib.hid (⟨he, hl, hs⟩ : CellR w c ve vl vs)
  obtain ⟨ae, ce, rfl⟩ := he.sh
  obtain ⟨al, cl, rfl⟩ := hl.sh
  obtain ⟨at_, cs, rfl⟩ := hs.sh
  unfold cval
  unfold maxLen at hvm
  have HM := fun W => dotMay16 d W
  have HL := fun W => lwwValue_ok v W hvm
  have HBd := Lib.hid hbad
  clear he hl hs hbad
  have C0 : (((w.alloc (.cells #[.int .i64 c.kind, .bool c.set, .int .i64 c.st.1, .int .i64 c.st.2, .string c.value, .int .i64 c.num.1, .int .i64 c.num.2, .slice ae c.ents.length ce, .slice al c.elems.length cl, .slice at_ c.seen.length cs] 59)).alloc (.cells #[.int .i64 d.1, .int .i64 d.2] 61)).alloc (.cells zlist.toArray 59)).heap[w.heap.size + 2]? = some (.cells zlist.toArray 59 (0, 0)) := al_at (by simp)
  have F0 : Frm No w (((w.alloc (.cells #[.int .i64 c.kind, .bool c.set, .int .i64 c.st.1, .int .i64 c.st.2, .string c.value, .int .i64 c.num.1, .int .i64 c.num.2, .slice ae c.ents.length ce, .slice al c.elems.length cl, .slice at_ c.seen.length cs] 59)).alloc (.cells #[.int .i64 d.1, .int .i64 d.2] 61)).alloc (.cells zlist.toArray 59)) := (((Frm.refl No w).al _).al _).al _
  by_cases hk : c.kind = 2
  · rw [hk] at C0 F0 ⊢
    have hbad := HBd.out
    rcases hdm : dotMay d with _ | _
    · rw [hdm] at HM
      clear hbad
      have hK := Lib.hid hk
      have hD := Lib.hid hdm
      clear hk hdm HL
      go_enter Try.func41, Try.ntmps41
      go_wp2_with (fail)
      refine (HM _).mono ?_
      rintro e w1 ⟨rfl, f1⟩
      have C1 := f1.obj C0 id
      have F1 := F0.trans f1
      clear HM
      go_wp2_with (refine wpList_sto _ rfl (.tmp 6) (.tmp 30) 59 rfl C1 (by kernel_rfl) (by rfl) zone rfl rfl ?_)
      intro w7 C7 f7 z7
      obtain ⟨t0, t1, t2, t3, t4, t5, t6, t7, t8, t9⟩ := obj10 C7
      go_wp2
      refine bodyPost_ret (v := .tuple #[zval, .int .i64 900]) (by simp [results, Try.results41, go_sem, zval, *]) rfl ?_
      exact ⟨rfl, F1.then f7 fun k hk e => by omega⟩
    · rw [hdm] at HM
      by_cases hs : v.size ≤ 256
      · rw [decide_eq_true hs] at HL
        have hex : ∃ e ∈ c.ents, (e.1, e.2.1) = d := by
          rcases hbad with h | h | h | h
          · exact absurd hk h
          · rw [hdm] at h; cases h
          · omega
          · exact h
        have hany : c.ents.any (fun e => decide ((e.1, e.2.1) = d)) = true := by
          obtain ⟨x, hx, e⟩ := hex
          exact List.any_eq_true.2 ⟨x, hx, decide_eq_true e⟩
        have HA := Lib.hid hany
        have D0 : (((w.alloc (.cells #[.int .i64 2, .bool c.set, .int .i64 c.st.1, .int .i64 c.st.2, .string c.value, .int .i64 c.num.1, .int .i64 c.num.2, .slice ae c.ents.length ce, .slice al c.elems.length cl, .slice at_ c.seen.length cs] 59)).alloc (.cells #[.int .i64 d.1, .int .i64 d.2] 61)).alloc (.cells zlist.toArray 59)).heap[w.heap.size + 1]? = some (.cells #[.int .i64 d.1, .int .i64 d.2] 61 (0, 0)) := al_old (al_at (by simp))
        have B0 : (((w.alloc (.cells #[.int .i64 2, .bool c.set, .int .i64 c.st.1, .int .i64 c.st.2, .string c.value, .int .i64 c.num.1, .int .i64 c.num.2, .slice ae c.ents.length ce, .slice al c.elems.length cl, .slice at_ c.seen.length cs] 59)).alloc (.cells #[.int .i64 d.1, .int .i64 d.2] 61)).alloc (.cells zlist.toArray 59)).heap[w.heap.size]? = some (.cells #[.int .i64 2, .bool c.set, .int .i64 c.st.1, .int .i64 c.st.2, .string c.value, .int .i64 c.num.1, .int .i64 c.num.2, .slice ae c.ents.length ce, .slice al c.elems.length cl, .slice at_ c.seen.length cs] 59 (0, 0)) := al_old (al_old (heap_alloc_new w _))
        clear hbad hk hdm hex hany hs
        go_enter Try.func41, Try.ntmps41
        go_wp2_with (fail)
        refine (HM _).mono ?_
        rintro e w1 ⟨rfl, f1⟩
        have C1 := f1.obj C0 id
        have B1 := f1.obj B0 id
        have D1 := f1.obj D0 id
        have F1 := F0.trans f1
        have q7 : w1.cell? ⟨w.heap.size, 7, none⟩ = some (.slice ae c.ents.length ce) := obj_cell B1 7
        clear HM C0 F0 D0 B0 f1
        go_wp2_with (fail)
        refine (HL _).mono ?_
        rintro e w2 ⟨rfl, rfl⟩
        clear HL
        go_wp2_with (fail)
        have p1 : PredOk w1 60 #[.pointer (some ⟨w.heap.size + 1, 0, none⟩)] (fun e => decide ((e.1, e.2.1) = d)) := fun W x f => put1_ok (f.obj D1 id) x
        have HC := containsFunc_ok (HR.out.no F1).e p1 (enters_of Try.func60 (by kernel_rfl) rfl)
        rw [HA.out] at HC
        refine HC.mono ?_
        rintro e w2 ⟨rfl, f2⟩
        replace F1 := F1.trans f2
        replace C1 := f2.obj C1 id
        clear HC p1 f2 B1 D1 q7
        go_wp2_with (refine wpList_sto _ rfl (.tmp 6) (.tmp 30) 59 rfl C1 (by kernel_rfl) (by rfl) zone rfl rfl ?_)
        intro w7 C7 f7 z7
        obtain ⟨t0, t1, t2, t3, t4, t5, t6, t7, t8, t9⟩ := obj10 C7
        go_wp2
        refine bodyPost_ret (v := .tuple #[zval, .int .i64 900]) (by simp [results, Try.results41, go_sem, zval, *]) rfl ?_
        exact ⟨rfl, F1.then f7 fun k hk e => by omega⟩
      · rw [decide_eq_false hs] at HL
        clear hbad hk hdm
        have hS := Lib.hid hs
        clear hs
        go_enter Try.func41, Try.ntmps41
        go_wp2_with (fail)
        refine (HM _).mono ?_
        rintro e w1 ⟨rfl, f1⟩
        have C1 := f1.obj C0 id
        have F1 := F0.trans f1
        clear HM
        go_wp2_with (fail)
        refine (HL _).mono ?_
        rintro e w2 ⟨rfl, rfl⟩
        clear HL
        go_wp2_with (refine wpList_sto _ rfl (.tmp 6) (.tmp 30) 59 rfl C1 (by kernel_rfl) (by rfl) zone rfl rfl ?_)
        intro w7 C7 f7 z7
        obtain ⟨t0, t1, t2, t3, t4, t5, t6, t7, t8, t9⟩ := obj10 C7
        go_wp2
        refine bodyPost_ret (v := .tuple #[zval, .int .i64 900]) (by simp [results, Try.results41, go_sem, zval, *]) rfl ?_
        exact ⟨rfl, F1.then f7 fun k hk e => by omega⟩
  · go_enter Try.func41, Try.ntmps41
    go_wp2_with (refine wpList_sto _ rfl (.tmp 6) (.tmp 30) 59 rfl C0 (by kernel_rfl) (by rfl) zone rfl rfl ?_)
    intro w7 C7 f7 z7
    obtain ⟨t0, t1, t2, t3, t4, t5, t6, t7, t8, t9⟩ := obj10 C7
    go_wp2
    refine bodyPost_ret (v := .tuple #[zval, .int .i64 900]) (by simp [results, Try.results41, go_sem, zval, *]) rfl ?_
    exact ⟨rfl, F0.then f7 fun k hk e => by omega⟩
end Go.Proofs.Ytheejjifcpjdbaa

/- Merged: Bld2 Bld3 Prn1. -/
import Derived.Deep.LoopGhost
import Derived.Test.YthaegncocdddfaaGreatDoorK03
import Derived.Test.YthaegncocdddfaaGreatDoorK07
import Derived.Test.YthaegncocdddfaaGreatDoorK08
import Derived.Test.YthaegncocdddfaaGreatDoorK10
import Derived.Test.YthaegncocdddfaaGreatDoorK17
import Derived.Test.YthaegncocdddfaaGreatDoorK18
/- strings.Builder, as a variable or as the first field of a struct: copyCheck, WriteByte, WriteString, Len, String. -/
namespace Go.Proofs.YthaegncocdddfaaGreatDoor
set_option linter.unusedVariables false
set_option linter.unusedSimpArgs false
set_option linter.unusedVariables false
set_option linter.unusedSimpArgs false
open Go.RowKit Go.Lib Go.Tt
def eU8 : Enc UInt8 := ⟨1, fun c => [.int .u8 c.toNat], fun _ => rfl, fun x u hu => by simp at hu; subst hu; rfl, by decide⟩
theorem eU8_flat (l : List UInt8) : eU8.flat l = Lib.byteCells l := by
  induction l with
  | nil => rfl
  | cons x l ih => rw [eU8.flat_cons, ih]; rfl
theorem i_u8e : (Tryz.prog.info? 5).map (fun i => (i.zero, i.size, i.bytes)) = some (some (.int .u8 0), eU8.k, 1) := by kernel_rfl
/-- The blocks that hold a Builder at their begin. -/
def BT (t : TypeId) : Prop := t = 88 ∨ t = 90
theorem BT.lies {t : TypeId} (h : BT t) : liesAt Tryz.prog Tryz.prog.depth t (2 / Tryz.prog.cellsOf t) 0 88 1 = true := by
  rcases h with rfl | rfl <;> kernel_rfl
theorem sizeBld : (Tryz.prog.info? 88).map (·.size) = some 2 := by kernel_rfl
/-- Block b, of type t, is a Builder, made behind M, that holds l; p: what its first cell holds. -/
def GBAt (w : World) (t : TypeId) (M b : Nat) (p : Value) (l : List UInt8) : Prop :=
  M ≤ b ∧ ∃ a n c, w.heap[b]? = some (.cells #[p, .slice a n c] t (0, 0)) ∧ Ow w (fun k => M ≤ k ∧ k ≠ b) 5 eU8 (.slice a n c) l
def GB (w : World) (t : TypeId) (M b : Nat) (l : List UInt8) : Prop := GBAt w t M b (.pointer none) l ∨ GBAt w t M b (.pointer (some ⟨b, 0, none⟩)) l
theorem GBAt.frm {w w' : World} {t : TypeId} {M b : Nat} {p : Value} {l : List UInt8} (h : GBAt w t M b p l) (f : Frm (fun k => k < M) w w') : GBAt w' t M b p l := by
  obtain ⟨hM, a, n, c, hb, o⟩ := h
  exact ⟨hM, a, n, c, f.obj hb (by omega), o.frm f fun k hk e => by omega⟩
theorem GB.frm {w w' : World} {t : TypeId} {M b : Nat} {l : List UInt8} (h : GB w t M b l) (f : Frm (fun k => k < M) w w') : GB w' t M b l := h.elim (fun h => .inl (h.frm f)) fun h => .inr (h.frm f)
theorem GB.no {w w' : World} {t : TypeId} {M b : Nat} {l : List UInt8} (h : GB w t M b l) (f : Frm No w w') : GB w' t M b l := h.frm (f.mono fun _ _ h => h.elim)
theorem GB.new {w : World} {t : TypeId} {M b : Nat} (hM : M ≤ b) (hb : w.heap[b]? = some (.cells #[.pointer none, .slice none 0 0] t (0, 0))) : GB w t M b [] := .inl ⟨hM, none, 0, 0, hb, Ow.nil _ _ _ _ _⟩
set_option maxRecDepth 100000 in
theorem gcopyCheck_ok {w : World} {t : TypeId} (ht : BT t) {M b : Nat} {l : List UInt8} (h : GB w t M b l) :
    Calls Tryz.prog 95 #[.pointer (some ⟨b, 0, none⟩)] w fun e w' => e = .returned (.tuple #[]) ∧ GBAt w' t M b (.pointer (some ⟨b, 0, none⟩)) l ∧ Frm (fun k => M ≤ k) w w' := by
  rcases h with h | h
  · obtain ⟨hM, a, n, c, hb, o⟩ := h
    have c0 : w.cell? ⟨b, 0, none⟩ = some (.pointer none) := obj_cell hb 0
    have z0 := obj_frz hb
    have hsh : w.shape? b = some (t, 2) := by simp [World.shape?, hb]
    obtain ⟨j, hj, hjs⟩ := Option.map_eq_some_iff.1 sizeBld
    go_enter Tryz.func95, Tryz.ntmps95
    go_wp2
    rw [Lib.run_to_unsafe w ⟨b, 0, none⟩ Tryz.underlying86 Tryz.underlying150 hj (by rw [hjs]; decide) hsh (Nat.zero_lt_succ 1)]
    simp only [Result.andThen]
    rw [Oper.upon_value]
    go_wp2
    rw [run_callFunc_extern Tryz.func108 (by kernel_rfl) (by kernel_rfl) (by kernel_rfl) (e := Extern.AbiNoEscape.same) (by kernel_rfl)]
    rw [Lib.run_noEscape]
    simp only [Result.andThen]
    rw [Oper.upon_value]
    go_wp2
    rw [Lib.run_from_unsafe w ⟨b, 0, none⟩ Tryz.underlying150 Tryz.underlying86 hj hsh ht.lies]
    simp only [Result.andThen]
    rw [Oper.upon_value]
    go_wp2
    go_end0
    refine ⟨rfl, ⟨hM, a, n, c, ?_, ?_⟩, Frm.setCell w ⟨b, 0, none⟩ _ hM⟩
    · have := obj_setCell (i := 0) hb (.pointer (some ⟨b, 0, none⟩))
      simpa using this
    · exact o.st (b := b) (fun h => h.2 rfl) 0 _
  · obtain ⟨hM, a, n, c, hb, o⟩ := h
    have c0 : w.cell? ⟨b, 0, none⟩ = some (.pointer (some ⟨b, 0, none⟩)) := obj_cell hb 0
    obtain ⟨j, hj, -⟩ := Option.map_eq_some_iff.1 sizeBld
    go_enter Tryz.func95, Tryz.ntmps95
    go_wp2
    rw [Lib.run_neq_ptr_same w _ Tryz.underlying86 hj]
    go_wp2
    go_end0
    exact ⟨rfl, ⟨hM, a, n, c, hb, o⟩, Frm.refl _ _⟩
set_option maxRecDepth 100000 in
theorem gwriteByte_ok {w : World} {t : TypeId} (ht : BT t) {M b : Nat} {l : List UInt8} (h : GB w t M b l) (x : UInt8) {y : Int} (hy : y = x.toNat) (hM : M ≤ w.heap.size) (hl : l.length + 1 ≤ 140737488355328) :
    Calls Tryz.prog 104 #[.pointer (some ⟨b, 0, none⟩), .int .u8 y] w fun e w' => e = .returned .nilIface ∧ GB w' t M b (l ++ [x]) ∧ Frm (fun k => M ≤ k) w w' := by
  subst hy
  have hcc := gcopyCheck_ok ht h
  clear h
  go_enter Tryz.func104, Tryz.ntmps104
  go_wp2_with (fail)
  refine hcc.mono ?_
  rintro e w1 ⟨rfl, ⟨hb0, a, n, c, hb, o⟩, f1⟩
  clear hcc
  have c1 : w1.cell? ⟨b, 1, none⟩ = some (.slice a n c) := obj_cell hb 1
  have hnl := o.cap.1
  have HN := Lib.hid hnl
  clear hnl
  have nb := lt_of_block hb
  have z1 := f1.size
  go_wp2_with (at_builtin; refine wpList_ap _ rfl (.tmp 11) (.tmp 13) 58 58 rfl 5 _ 1 Tryz.underlying58 i_u8e rfl (o.al _) ((RdS.lit1 w1 eU8 x _).src Tryz.underlying58) rfl rfl rfl ?c1 ?c2 ?_)
  case c1 => unfold maxLen; omega
  case c2 => omega
  intro a' c' w2 o2 f2
  have hb2 := f2.obj (al_old hb) (by omega)
  have d0 : w2.cell? ⟨b, 0, none⟩ = some (.pointer (some ⟨b, 0, none⟩)) := obj_cell hb2 0
  have d1 : w2.cell? ⟨b, 1, none⟩ = some (.slice a n c) := obj_cell hb2 1
  have z2 := obj_frz hb2
  have nb2 := lt_of_block hb2
  rw [← HN.out] at o2
  go_wp2
  go_ret
  refine ⟨rfl, .inr ⟨hb0, a', n + 1, c', ?_, ?_⟩, ?_⟩
  · have := obj_setCell (i := 1) hb2 (.slice a' (n + 1) c')
    rw [HN.out] at this ⊢
    simpa using this
  · rw [HN.out] at o2 ⊢
    refine (o2.mono fun k hk h => ?_).st (b := b) (fun h => h.2 rfl) 1 _
    rcases h with h | h
    · exact h
    · have := h.1
      simp at this
      exact ⟨by omega, by omega⟩
  · exact ((f1.al _).trans (f2.mono fun k _ h => h.1)).sc hb0 _ _
set_option maxRecDepth 100000 in
theorem gwriteString_ok {w : World} {t : TypeId} (ht : BT t) {M b : Nat} {l : List UInt8} (h : GB w t M b l) (s : ByteArray) (hM : M ≤ w.heap.size) (hl : l.length + s.size ≤ 140737488355328) :
    Calls Tryz.prog 76 #[.pointer (some ⟨b, 0, none⟩), .string s] w fun e w' => e = .returned (.tuple #[.int .i64 s.size, .nilIface]) ∧ GB w' t M b (l ++ s.data.toList) ∧ Frm (fun k => M ≤ k) w w' := by
  have hcc := gcopyCheck_ok ht h
  clear h
  go_enter Tryz.func76, Tryz.ntmps76
  go_wp2_with (fail)
  refine hcc.mono ?_
  rintro e w1 ⟨rfl, ⟨hb0, a, n, c, hb, o⟩, f1⟩
  clear hcc
  have c1 : w1.cell? ⟨b, 1, none⟩ = some (.slice a n c) := obj_cell hb 1
  have hnl := o.cap.1
  have HN := Lib.hid hnl
  clear hnl
  have nb := lt_of_block hb
  have z1 := f1.size
  have hsr : Src Tryz.prog eU8.k 9 (.string s) s.size (eU8.flat s.data.toList) w1 := by
    rw [eU8_flat]
    exact Src.ofString w1 Tryz.underlying9 s
  have hsl : s.size = s.data.toList.length := by rw [Array.length_toList]; rfl
  have HSL := Lib.hid hsl
  clear hsl
  go_wp2_with (at_builtin; refine wpList_ap _ rfl (.tmp 12) (.tmp 13) 58 9 rfl 5 _ 1 Tryz.underlying58 i_u8e rfl o hsr HSL.out rfl rfl ?c1 ?c2 ?_)
  case c1 => unfold maxLen; omega
  case c2 => omega
  intro a' c' w2 o2 f2
  have hb2 := f2.obj hb (by omega)
  have d0 : w2.cell? ⟨b, 0, none⟩ = some (.pointer (some ⟨b, 0, none⟩)) := obj_cell hb2 0
  have d1 : w2.cell? ⟨b, 1, none⟩ = some (.slice a n c) := obj_cell hb2 1
  have z2 := obj_frz hb2
  have nb2 := lt_of_block hb2
  rw [← HN.out] at o2
  go_wp2
  go_ret2
  refine ⟨rfl, .inr ⟨hb0, a', n + s.size, c', ?_, ?_⟩, ?_⟩
  · have := obj_setCell (i := 1) hb2 (.slice a' (n + s.size) c')
    rw [HN.out] at this ⊢
    simpa using this
  · rw [HN.out] at o2 ⊢
    refine (o2.mono fun k hk h => ?_).st (b := b) (fun h => h.2 rfl) 1 _
    rcases h with h | h
    · exact h
    · have := h.1
      exact ⟨by omega, by omega⟩
  · exact ((f1).trans (f2.mono fun k _ h => h.1)).sc hb0 _ _
set_option maxRecDepth 100000 in
theorem glen_ok {w : World} {t : TypeId} {M b : Nat} {l : List UInt8} (h : GB w t M b l) :
    Calls Tryz.prog 103 #[.pointer (some ⟨b, 0, none⟩)] w fun e w' => e = .returned (.int .i64 l.length) ∧ w = w' := by
  obtain ⟨p, hM, a, n, c, hb, o⟩ : ∃ p, GBAt w t M b p l := h.elim (fun h => ⟨_, h⟩) fun h => ⟨_, h⟩
  have c1 : w.cell? ⟨b, 1, none⟩ = some (.slice a n c) := obj_cell hb 1
  have hn := Lib.hid o.cap.1
  have nb := lt_of_block hb
  go_enter Tryz.func103, Tryz.ntmps103
  go_wp2
  go_ret
  exact ⟨by rw [hn.out]; rfl, rfl⟩
set_option maxHeartbeats 1000000 in
set_option maxRecDepth 100000 in
/-- String, of a Builder that holds something, or was never written to. -/
theorem gstring_ok {w : World} {t : TypeId} {M b : Nat} {l : List UInt8} (h : GB w t M b l) (h0 : l ≠ []) :
    Calls Tryz.prog 28 #[.pointer (some ⟨b, 0, none⟩)] w fun e w' => e = .returned (.string ⟨l.toArray⟩) ∧ Frm (fun k => M ≤ k) w w' := by
  obtain ⟨p, hM, a, n, c, hb, o⟩ : ∃ p, GBAt w t M b p l := h.elim (fun h => ⟨_, h⟩) fun h => ⟨_, h⟩
  have hl0 : 0 < l.length := List.length_pos_iff.2 h0
  have hnl := o.cap.1
  obtain ⟨g, row, rfl, hg, hF, -, hnc, hcm, hrs, htk⟩ := o.cases (by omega)
  rw [hnl] at hb hnc
  clear hnl
  have c1 : w.cell? ⟨b, 1, none⟩ = some (.slice (some ⟨g, 0, none⟩) l.length c) := obj_cell hb 1
  have nb := lt_of_block hb
  have hSD : ∀ W, (Builtin.unsafeSliceData_ #[58] 117 #[.slice (some ⟨g, 0, none⟩) l.length c]).run Tryz.prog W = .ok (.pointer (some ⟨g, 0, none⟩)) W := fun W => Lib.run_unsafeSliceData_row _ _ _ _ _ _ (by omega)
  have hUS : (Builtin.unsafeString_ #[117, 3] 9 #[.pointer (some ⟨g, 0, none⟩), .int .i64 l.length]).run Tryz.prog w.drew = .ok (.string ⟨l.toArray⟩) (w.drew.freeze ⟨g, 0, none⟩ l.length) := by
    refine Lib.run_unsafeString_row (P := Tryz.prog) (w := w.drew) 117 3 9 5 Tryz.underlying117 (by kernel_rfl) g row.size (by have hg' : w.drew.heap[g]? = some (.cells row 5 (0, 0)) := hg; simp [World.shape?, hg']) l h0 (by rw [hrs]; show l.length ≤ c * 1; omega) (by unfold maxLen at hcm; omega) ?_
    intro j x hx
    have hjl : j < l.length := (List.getElem?_eq_some_iff.1 hx).1
    have e1 : w.cell? ⟨g, j, none⟩ = row[j]? := obj_cell hg j
    have e2 : row[j]? = (row.toList.take (l.length * eU8.k))[j]? := by
      rw [List.getElem?_take_of_lt (by show j < l.length * 1; omega), Array.getElem?_toList]
    rw [htk] at e2
    have e3 := eU8.flat_get (l := l) (i := j) (j := 0) hjl (by decide)
    have e4 : j * eU8.k + 0 = j := by show j * 1 + 0 = j; omega
    rw [e4] at e3
    have hxj : l[j] = x := by
      have := List.getElem?_eq_getElem hjl
      rw [this] at hx
      exact Option.some.inj hx
    rw [hxj] at e3
    have : w.cell? ⟨g, 0 + j, none⟩ = some (.int .u8 x.toNat) := by rw [Nat.zero_add, e1, e2, e3]; rfl
    rw [Addr.add_lit]
    exact this
  have hMg : M ≤ g := hF.1
  clear o htk hrs hg hnc hcm hF
  go_enter Tryz.func28, Tryz.ntmps28
  go_wp2_with (fail)
  refine wp_region_plan [([0, 1, 2, 3, 5, 6, 7, 8, 9, 4], [8]), ([10, 11], [])] 14 (by kernel_rfl) (by kernel_rfl) (by simp) ?_
  intro N hN
  simp only [wpSegs, List.map_cons, List.map_nil, List.getD_cons_zero, List.getD_cons_succ]
  go_wp2_with (fail)
  refine ⟨again_cons (again_of rfl rfl ?_) again_nil, ?_⟩
  · go_simp
  go_wp2_with (fail)
  go_ret
  exact ⟨rfl, Frm.of_below (Lib.below_freeze (Below.drew (Below.refl _ w)) (p := ⟨g, 0, none⟩) hMg _)⟩
end Go.Proofs.YthaegncocdddfaaGreatDoor

/- strings.Builder, its row in a footprint of its own. -/
namespace Go.Proofs.YthaegncocdddfaaGreatDoor
set_option linter.unusedVariables false
set_option linter.unusedSimpArgs false
open Go.RowKit Go.Lib Go.Tt
/-- Block b, of type t, is a Builder that holds l, its row in F; p: what its first cell holds. -/
def FBAt (w : World) (t : TypeId) (F : Nat → Prop) (b : Nat) (p : Value) (l : List UInt8) : Prop :=
  ∃ a n c, w.heap[b]? = some (.cells #[p, .slice a n c] t (0, 0)) ∧ Ow w (fun k => F k ∧ k ≠ b) 5 eU8 (.slice a n c) l
def FB (w : World) (t : TypeId) (F : Nat → Prop) (b : Nat) (l : List UInt8) : Prop := FBAt w t F b (.pointer none) l ∨ FBAt w t F b (.pointer (some ⟨b, 0, none⟩)) l
theorem FBAt.frm {w w' : World} {t : TypeId} {F G : Nat → Prop} {b : Nat} {p : Value} {l : List UInt8} (h : FBAt w t F b p l) (f : Frm G w w') (h1 : ¬ G b) (h2 : ∀ k, F k → ¬ G k) : FBAt w' t F b p l := by
  obtain ⟨a, n, c, hb, o⟩ := h
  exact ⟨a, n, c, f.obj hb h1, o.frm f fun k hk => h2 k hk.1⟩
theorem FB.frm {w w' : World} {t : TypeId} {F G : Nat → Prop} {b : Nat} {l : List UInt8} (h : FB w t F b l) (f : Frm G w w') (h1 : ¬ G b) (h2 : ∀ k, F k → ¬ G k) : FB w' t F b l := h.elim (fun h => .inl (h.frm f h1 h2)) fun h => .inr (h.frm f h1 h2)
theorem FB.no {w w' : World} {t : TypeId} {F : Nat → Prop} {b : Nat} {l : List UInt8} (h : FB w t F b l) (f : Frm No w w') : FB w' t F b l := h.frm f id fun _ _ h => h
theorem FB.mono {w : World} {t : TypeId} {F G : Nat → Prop} {b : Nat} {l : List UInt8} (h : FB w t F b l) (hs : ∀ k, k < w.heap.size → F k → G k) : FB w t G b l := by
  rcases h with ⟨a, n, c, hb, o⟩ | ⟨a, n, c, hb, o⟩
  · exact .inl ⟨a, n, c, hb, o.mono fun k hk h => ⟨hs k hk h.1, h.2⟩⟩
  · exact .inr ⟨a, n, c, hb, o.mono fun k hk h => ⟨hs k hk h.1, h.2⟩⟩
theorem FB.new {w : World} {t : TypeId} {b : Nat} (F : Nat → Prop) (hb : w.heap[b]? = some (.cells #[.pointer none, .slice none 0 0] t (0, 0))) : FB w t F b [] := .inl ⟨none, 0, 0, hb, Ow.nil _ _ _ _ _⟩
theorem FB.lt {w : World} {t : TypeId} {F : Nat → Prop} {b : Nat} {l : List UInt8} (h : FB w t F b l) : b < w.heap.size := by
  rcases h with ⟨a, n, c, hb, -⟩ | ⟨a, n, c, hb, -⟩ <;> exact lt_of_block hb
/-- It holds what was made from M on. -/
theorem FB.gb {w : World} {t : TypeId} {M : Nat} {F : Nat → Prop} {b : Nat} {l : List UInt8} (h : FB w t F b l) (hb : M ≤ b) (hF : ∀ k, F k → M ≤ k) : GB w t M b l := by
  rcases h with ⟨a, n, c, hbb, o⟩ | ⟨a, n, c, hbb, o⟩
  · exact .inl ⟨hb, a, n, c, hbb, o.mono fun k _ h => ⟨hF k h.1, h.2⟩⟩
  · exact .inr ⟨hb, a, n, c, hbb, o.mono fun k _ h => ⟨hF k h.1, h.2⟩⟩
set_option maxRecDepth 100000 in
theorem fcopyCheck_ok {w : World} {t : TypeId} (ht : BT t) {F : Nat → Prop} {b : Nat} {l : List UInt8} (h : FB w t F b l) :
    Calls Tryz.prog 95 #[.pointer (some ⟨b, 0, none⟩)] w fun e w' => e = .returned (.tuple #[]) ∧ FBAt w' t F b (.pointer (some ⟨b, 0, none⟩)) l ∧ Frm (fun k => k = b) w w' := by
  rcases h with h | h
  · obtain ⟨a, n, c, hb, o⟩ := h
    have c0 : w.cell? ⟨b, 0, none⟩ = some (.pointer none) := obj_cell hb 0
    have z0 := obj_frz hb
    have hsh : w.shape? b = some (t, 2) := by simp [World.shape?, hb]
    obtain ⟨j, hj, hjs⟩ := Option.map_eq_some_iff.1 sizeBld
    go_enter Tryz.func95, Tryz.ntmps95
    go_wp2
    rw [Lib.run_to_unsafe w ⟨b, 0, none⟩ Tryz.underlying86 Tryz.underlying150 hj (by rw [hjs]; decide) hsh (Nat.zero_lt_succ 1)]
    simp only [Result.andThen]
    rw [Oper.upon_value]
    go_wp2
    rw [run_callFunc_extern Tryz.func108 (by kernel_rfl) (by kernel_rfl) (by kernel_rfl) (e := Extern.AbiNoEscape.same) (by kernel_rfl)]
    rw [Lib.run_noEscape]
    simp only [Result.andThen]
    rw [Oper.upon_value]
    go_wp2
    rw [Lib.run_from_unsafe w ⟨b, 0, none⟩ Tryz.underlying150 Tryz.underlying86 hj hsh ht.lies]
    simp only [Result.andThen]
    rw [Oper.upon_value]
    go_wp2
    go_end0
    refine ⟨rfl, ⟨a, n, c, ?_, ?_⟩, Frm.setCell w ⟨b, 0, none⟩ _ rfl⟩
    · have := obj_setCell (i := 0) hb (.pointer (some ⟨b, 0, none⟩))
      simpa using this
    · exact o.st (b := b) (fun h => h.2 rfl) 0 _
  · obtain ⟨a, n, c, hb, o⟩ := h
    have c0 : w.cell? ⟨b, 0, none⟩ = some (.pointer (some ⟨b, 0, none⟩)) := obj_cell hb 0
    obtain ⟨j, hj, -⟩ := Option.map_eq_some_iff.1 sizeBld
    go_enter Tryz.func95, Tryz.ntmps95
    go_wp2
    rw [Lib.run_neq_ptr_same w _ Tryz.underlying86 hj]
    go_wp2
    go_end0
    exact ⟨rfl, ⟨a, n, c, hb, o⟩, Frm.refl _ _⟩
set_option maxRecDepth 100000 in
theorem fwriteString_ok {w : World} {t : TypeId} (ht : BT t) {F : Nat → Prop} {b : Nat} {l : List UInt8} (h : FB w t F b l) (s : ByteArray) (hl : l.length + s.size ≤ 140737488355328) :
    Calls Tryz.prog 76 #[.pointer (some ⟨b, 0, none⟩), .string s] w fun e w' => e = .returned (.tuple #[.int .i64 s.size, .nilIface]) ∧ FB w' t (fun k => F k ∨ (w.heap.size ≤ k ∧ k < w'.heap.size)) b (l ++ s.data.toList) ∧ Frm (fun k => k = b ∨ F k) w w' := by
  have hcc := fcopyCheck_ok ht h
  clear h
  go_enter Tryz.func76, Tryz.ntmps76
  go_wp2_with (fail)
  refine hcc.mono ?_
  rintro e w1 ⟨rfl, ⟨a, n, c, hb, o⟩, f1⟩
  clear hcc
  have c1 : w1.cell? ⟨b, 1, none⟩ = some (.slice a n c) := obj_cell hb 1
  have hnl := o.cap.1
  have HN := Lib.hid hnl
  clear hnl
  have nb := lt_of_block hb
  have z1 := f1.size
  have hsr : Src Tryz.prog eU8.k 9 (.string s) s.size (eU8.flat s.data.toList) w1 := by
    rw [eU8_flat]
    exact Src.ofString w1 Tryz.underlying9 s
  have hsl : s.size = s.data.toList.length := by rw [Array.length_toList]; rfl
  have HSL := Lib.hid hsl
  clear hsl
  go_wp2_with (at_builtin; refine wpList_ap _ rfl (.tmp 12) (.tmp 13) 58 9 rfl 5 _ 1 Tryz.underlying58 i_u8e rfl o hsr HSL.out rfl rfl ?c1 ?c2 ?_)
  case c1 => unfold maxLen; omega
  case c2 => omega
  intro a' c' w2 o2 f2
  have hb2 := f2.obj hb (fun h => h.2 rfl)
  have d0 : w2.cell? ⟨b, 0, none⟩ = some (.pointer (some ⟨b, 0, none⟩)) := obj_cell hb2 0
  have d1 : w2.cell? ⟨b, 1, none⟩ = some (.slice a n c) := obj_cell hb2 1
  have z2 := obj_frz hb2
  have nb2 := lt_of_block hb2
  have s2 := f2.size
  rw [← HN.out] at o2
  go_wp2
  go_ret2
  refine ⟨rfl, .inr ⟨a', n + s.size, c', ?_, ?_⟩, ?_⟩
  · have := obj_setCell (i := 1) hb2 (.slice a' (n + s.size) c')
    rw [HN.out] at this ⊢
    simpa using this
  · rw [HN.out] at o2 ⊢
    refine (o2.mono (G := fun k => (F k ∨ (w.heap.size ≤ k ∧ k < (w2.setCell ⟨b, 1, none⟩ (.slice a' (l.length + s.size) c')).heap.size)) ∧ k ≠ b) fun k hk h => ?_).st (b := b) (fun h => h.2 rfl) 1 _
    rcases h with h | h
    · exact ⟨.inl h.1, h.2⟩
    · have := h.1
      exact ⟨.inr ⟨by omega, by simpa using hk⟩, by omega⟩
  · exact ((f1.mono fun k _ h => .inl h).trans (f2.mono fun k _ h => .inr h.1)).sc (.inl rfl) _ _
end Go.Proofs.YthaegncocdddfaaGreatDoor

/- The printer, walked: add. -/
namespace Go.Proofs.YthaegncocdddfaaGreatDoor
set_option linter.unusedVariables false
set_option linter.unusedSimpArgs false
open Go.RowKit Go.Lib Go.Tt
/-- Words, each with a blank behind. -/
def spS (ss : List ByteArray) : List UInt8 := ss.flatMap fun s => sp (byL s)
theorem spS_step {ss : List ByteArray} {i : Nat} (h : i < ss.length) : spS (ss.take (i + 1)) = spS (ss.take i) ++ sp (byL ss[i]) := by
  unfold spS
  rw [List.take_succ_eq_append_getElem h, List.flatMap_append]
  simp
theorem spS_le {ss : List ByteArray} (i : Nat) : (spS (ss.take i)).length ≤ (spS ss).length := by
  have : spS ss = spS (ss.take i) ++ spS (ss.drop i) := by
    unfold spS
    rw [← List.flatMap_append, List.take_append_drop]
  rw [this, List.length_append]
  omega
theorem blank_bytes (s : ByteArray) : (s ++ (⟨#[32]⟩ : ByteArray)).data.toList = sp (byL s) := by
  rw [ByteArray.data_append, Array.toList_append]
  rfl
theorem blank_size (s : ByteArray) : (s ++ (⟨#[32]⟩ : ByteArray)).size = (sp (byL s)).length := by
  rw [← blank_bytes, Array.length_toList]
  rfl
set_option maxHeartbeats 4000000 in
set_option maxRecDepth 100000 in
theorem padd_ok {w : World} {F : Nat → Prop} {pb : Nat} {l : List UInt8} (h : FB w 90 F pb l) {v : Value} {ss : List ByteArray} (hr : RdS w eStr v ss) (hd : ∀ g, sblk v = some g → g ≠ pb ∧ ¬ F g) (hlen : l.length + (spS ss).length ≤ 140737488355328) (hF : ∀ k, F k → k < w.heap.size) :
    Calls Tryz.prog 57 #[.pointer (some ⟨pb, 0, none⟩), v] w fun e w' => e = .returned (.tuple #[]) ∧ FB w' 90 (fun k => F k ∨ (w.heap.size ≤ k ∧ k < w'.heap.size)) pb (l ++ spS ss) ∧ Frm (fun k => k = pb ∨ F k) w w' := by
  obtain ⟨av, cv, rfl⟩ := hr.sh
  have BTt : BT 90 := .inr rfl
  have nb := h.lt
  have HR := Lib.hid hr
  have HD := Lib.hid hd
  have HFF := Lib.hid hF
  have hss : ss.length ≤ 9223372036854775807 := by
    have h1 := hr.facts.2.1
    have h2 := hr.facts.2.2.1
    unfold maxLen at h2
    omega
  clear hr hd hF
  go_enter Tryz.func57, Tryz.ntmps57
  go_wp2_with (fail)
  go_loopg [8] (ss.length + 1) (fun g iv wr => ∃ i : Nat, iv = .int .i64 i ∧ g = ss.length - i + 1 ∧ i ≤ ss.length ∧ FB wr 90 (fun k => F k ∨ (w.heap.size ≤ k ∧ k < wr.heap.size)) pb (l ++ spS (ss.take i)) ∧ Frm (fun k => k = pb ∨ F k) w wr)
  case atStart => exact ⟨0, rfl, by omega, Nat.zero_le _, by rw [List.take_zero]; show FB w _ _ pb (l ++ []); rw [List.append_nil]; exact h.mono fun k _ hk => .inl hk, Frm.refl _ _⟩
  case round =>
    clear h
    obtain ⟨i, rfl, hg, hi, B, Fr⟩ := hrel
    have hG := Lib.hid hg
    clear hg
    have nbr := B.lt
    by_cases hlt : i < ss.length
    · obtain ⟨b, off, rfl, hbl, hc⟩ := HR.out.at hlt
      have hbd := HD.out b (by
        obtain ⟨m, hm⟩ : ∃ m, ss.length = m + 1 := ⟨ss.length - 1, by omega⟩
        rw [hm]; rfl)
      have e0 : wr.cell? ⟨b, off + i, none⟩ = some (.string ss[i]) := by
        have h1 : w.cell? ⟨b, off + (i * 1 + 0), none⟩ = some (.string ss[i]) := hc 0 _ rfl
        rw [Nat.mul_one, Nat.add_zero] at h1
        rw [Fr.cell (p := ⟨b, off + i, none⟩) hbl (fun h => h.elim (fun h => hbd.1 h) fun h => hbd.2 h)]
        exact h1
      have hstp := spS_step hlt
      have hle := spS_le (ss := ss) (i + 1)
      have hsz := blank_size ss[i]
      have hby := blank_bytes ss[i]
      have hsn : ss[i].size + 1 ≤ 140737488355328 := by
        have h1 : (sp (byL ss[i])).length = ss[i].size + 1 := by
          unfold sp byL
          rw [List.length_append, Array.length_toList]
          rfl
        rw [hstp, List.length_append] at hle
        omega
      have HB := fwriteString_ok BTt B (ss[i] ++ ⟨#[32]⟩) (by rw [hsz, List.length_append]; rw [hstp, List.length_append] at hle; omega)
      rw [hby, List.append_assoc, ← hstp] at HB
      have HB := Lib.hid HB
      have sz := Fr.size
      clear hc hstp hle hsz hby hbd
      go_wp2_with (fail)
      refine HB.out.mono ?_
      rintro e w2 ⟨rfl, B2, f2⟩
      have s2 := f2.size
      go_wp2_with (fail)
      go_roundg (ss.length - (i + 1) + 1)
      case measure => have := hG.out; omega
      case rel =>
        refine ⟨i + 1, by go_num, rfl, hlt, B2.mono fun k hk h => ?_, Fr.then f2 fun k hk h => ?_⟩
        · rcases h with (h | h) | h
          · exact .inl h
          · exact .inr ⟨h.1, hk⟩
          · exact .inr ⟨by omega, hk⟩
        · rcases h with h | h | h
          · exact .inl h
          · exact .inr h
          · omega
    · obtain rfl : i = ss.length := by omega
      rw [List.take_length] at B
      go_wp2_with (fail)
      go_end0
      exact ⟨rfl, B, Fr⟩
end Go.Proofs.YthaegncocdddfaaGreatDoor

/- Merged: Bld Cells1 Cells2. -/
import Derived.Test.YtofikfkgiblblaaGreatDoorQ01
import Derived.Test.YtofikfkgiblblaaGreatDoorQ06
import Derived.Test.YtofikfkgiblblaaGreatDoorQ07
/- strings.Builder: what it holds; copyCheck, WriteByte, WriteString, String. -/
namespace Go.Proofs.YtofikfkgiblblaaGreatDoor
set_option linter.unusedVariables false
set_option linter.unusedSimpArgs false
set_option linter.unusedVariables false
set_option linter.unusedSimpArgs false
open Go.RowKit Go.Lib Go.Tt
def eU8 : Enc UInt8 := ⟨1, fun c => [.int .u8 c.toNat], fun _ => rfl, fun x u hu => by simp at hu; subst hu; rfl, by decide⟩
theorem eU8_flat (l : List UInt8) : eU8.flat l = Lib.byteCells l := by
  induction l with
  | nil => rfl
  | cons x l ih => rw [eU8.flat_cons, ih]; rfl
theorem i_u8e : (Tryz.prog.info? 5).map (fun i => (i.zero, i.size, i.bytes)) = some (some (.int .u8 0), eU8.k, 1) := by kernel_rfl
/-- Block b is a Builder, made behind M, that holds l; p: what its first cell holds. -/
def BldAt (w : World) (M b : Nat) (p : Value) (l : List UInt8) : Prop :=
  M ≤ b ∧ ∃ a n c, w.heap[b]? = some (.cells #[p, .slice a n c] 115 (0, 0)) ∧ Ow w (fun k => M ≤ k ∧ k ≠ b) 5 eU8 (.slice a n c) l
def Bld (w : World) (M b : Nat) (l : List UInt8) : Prop := BldAt w M b (.pointer none) l ∨ BldAt w M b (.pointer (some ⟨b, 0, none⟩)) l
theorem BldAt.frm {w w' : World} {M b : Nat} {p : Value} {l : List UInt8} (h : BldAt w M b p l) (f : Frm (fun k => k < M) w w') : BldAt w' M b p l := by
  obtain ⟨hM, a, n, c, hb, o⟩ := h
  exact ⟨hM, a, n, c, f.obj hb (by omega), o.frm f fun k hk e => by omega⟩
theorem Bld.frm {w w' : World} {M b : Nat} {l : List UInt8} (h : Bld w M b l) (f : Frm (fun k => k < M) w w') : Bld w' M b l := h.elim (fun h => .inl (h.frm f)) fun h => .inr (h.frm f)
theorem Bld.no {w w' : World} {M b : Nat} {l : List UInt8} (h : Bld w M b l) (f : Frm No w w') : Bld w' M b l := h.frm (f.mono fun _ _ h => h.elim)
theorem own_up {w : World} {e k n M : Nat} {v : Value} {xs : List Value} (h : w.ownsRow 0 e k v n xs) (hM : ∀ g, v.ownBlock = some g → M ≤ g) : w.ownsRow M e k v n xs := by
  refine ⟨h.1, ?_⟩
  rcases h.2 with hn | ⟨g, cap, cur, rfl, hb, rest⟩
  · exact .inl hn
  · exact .inr ⟨g, cap, cur, rfl, hM g rfl, rest⟩
theorem BldAt.toF {w : World} {M b : Nat} {p : Value} {l : List UInt8} (h : BldAt w M b p l) (hp : ∀ a, Ow w (fun k => M ≤ k ∧ k ≠ b) 5 eU8 (.slice a 0 0) l → a = none ∨ l ≠ []) : Lib.BuilderAtF 115 5 M b p (Lib.byteCells l) w := by
  obtain ⟨hM, a, n, c, hb, o⟩ := h
  refine ⟨hM, _, hb, ?_, ?_⟩
  · rcases o with ⟨a', h1, rfl⟩ | ⟨h1, h2⟩
    · simp only [Value.slice.injEq] at h1
      obtain ⟨rfl, rfl, rfl⟩ := h1
      rcases hp a (.inl ⟨a, rfl, rfl⟩) with rfl | h
      · exact World.ownsRowF_of (World.ownsRow_nil w M 5 1)
      · exact absurd rfl h
    · rw [eU8_flat] at h1
      have := World.ownsRowF_of (own_up (M := M) h1 fun g hg => (h2 g hg).1)
      rwa [← Lib.byteCells_length l] at this
  · intro e
    rcases o with ⟨a', h1, rfl⟩ | ⟨h1, h2⟩
    · simp only [Value.slice.injEq] at h1
      obtain ⟨rfl, rfl, rfl⟩ := h1
      rcases hp a (.inl ⟨a, rfl, rfl⟩) with rfl | h
      · simp [Value.ownBlock] at e
      · exact absurd rfl h
    · exact (h2 b e).2 rfl
set_option maxRecDepth 100000 in
theorem copyCheck_ok {w : World} {M b : Nat} {l : List UInt8} (h : Bld w M b l) :
    Calls Tryz.prog 122 #[.pointer (some ⟨b, 0, none⟩)] w fun e w' => e = .returned (.tuple #[]) ∧ BldAt w' M b (.pointer (some ⟨b, 0, none⟩)) l ∧ Frm (fun k => M ≤ k) w w' := by
  rcases h with h | h
  · obtain ⟨hM, a, n, c, hb, o⟩ := h
    have c0 : w.cell? ⟨b, 0, none⟩ = some (.pointer none) := obj_cell hb 0
    have z0 := obj_frz hb
    have hsh : w.shape? b = some (115, 2) := by simp [World.shape?, hb]
    obtain ⟨j, hj, hjs⟩ := Option.map_eq_some_iff.1 Tryz.Builder_Extra_169.sizeBuilder
    go_enter Tryz.func122, Tryz.ntmps122
    go_wp2
    rw [Lib.run_to_unsafe w ⟨b, 0, none⟩ Tryz.underlying113 Tryz.underlying173 hj (by rw [hjs]; decide) hsh (Nat.zero_lt_succ 1)]
    simp only [Result.andThen]
    rw [Oper.upon_value]
    go_wp2
    rw [run_callFunc_extern Tryz.func145 (by kernel_rfl) (by kernel_rfl) (by kernel_rfl) (e := Extern.AbiNoEscape.same) (by kernel_rfl)]
    rw [Lib.run_noEscape]
    simp only [Result.andThen]
    rw [Oper.upon_value]
    go_wp2
    rw [Lib.run_from_unsafe w ⟨b, 0, none⟩ Tryz.underlying173 Tryz.underlying113 hj hsh Tryz.Builder_Extra_169.liesBuilder]
    simp only [Result.andThen]
    rw [Oper.upon_value]
    go_wp2
    go_end0
    refine ⟨rfl, ⟨hM, a, n, c, ?_, ?_⟩, Frm.setCell w ⟨b, 0, none⟩ _ hM⟩
    · have := obj_setCell (i := 0) hb (.pointer (some ⟨b, 0, none⟩))
      simpa using this
    · exact o.st (b := b) (fun h => h.2 rfl) 0 _
  · obtain ⟨hM, a, n, c, hb, o⟩ := h
    have c0 : w.cell? ⟨b, 0, none⟩ = some (.pointer (some ⟨b, 0, none⟩)) := obj_cell hb 0
    obtain ⟨j, hj, -⟩ := Option.map_eq_some_iff.1 Tryz.Builder_Extra_169.sizeBuilder
    go_enter Tryz.func122, Tryz.ntmps122
    go_wp2
    rw [Lib.run_neq_ptr_same w _ Tryz.underlying113 hj]
    go_wp2
    go_end0
    exact ⟨rfl, ⟨hM, a, n, c, hb, o⟩, Frm.refl _ _⟩
set_option maxRecDepth 100000 in
theorem writeByte_ok {w : World} {M b : Nat} {l : List UInt8} (h : Bld w M b l) (x : UInt8) {y : Int} (hy : y = x.toNat) (hM : M ≤ w.heap.size) (hl : l.length + 1 ≤ 140737488355328) :
    Calls Tryz.prog 84 #[.pointer (some ⟨b, 0, none⟩), .int .u8 y] w fun e w' => e = .returned .nilIface ∧ Bld w' M b (l ++ [x]) ∧ Frm (fun k => M ≤ k) w w' := by
  subst hy
  have hcc := copyCheck_ok h
  clear h
  go_enter Tryz.func84, Tryz.ntmps84
  go_wp2_with (fail)
  refine hcc.mono ?_
  rintro e w1 ⟨rfl, ⟨hb0, a, n, c, hb, o⟩, f1⟩
  clear hcc
  have c1 : w1.cell? ⟨b, 1, none⟩ = some (.slice a n c) := obj_cell hb 1
  have hnl := o.cap.1
  have HN := Lib.hid hnl
  clear hnl
  have nb := lt_of_block hb
  have z1 := f1.size
  go_wp2_with (at_builtin; refine wpList_ap _ rfl (.tmp 11) (.tmp 13) 63 63 rfl 5 _ 1 Tryz.underlying63 i_u8e rfl (o.al _) ((RdS.lit1 w1 eU8 x _).src Tryz.underlying63) rfl rfl rfl ?c1 ?c2 ?_)
  case c1 => unfold maxLen; omega
  case c2 => omega
  intro a' c' w2 o2 f2
  have hb2 := f2.obj (al_old hb) (by omega)
  have d0 : w2.cell? ⟨b, 0, none⟩ = some (.pointer (some ⟨b, 0, none⟩)) := obj_cell hb2 0
  have d1 : w2.cell? ⟨b, 1, none⟩ = some (.slice a n c) := obj_cell hb2 1
  have z2 := obj_frz hb2
  have nb2 := lt_of_block hb2
  rw [← HN.out] at o2
  go_wp2
  go_ret
  refine ⟨rfl, .inr ⟨hb0, a', n + 1, c', ?_, ?_⟩, ?_⟩
  · have := obj_setCell (i := 1) hb2 (.slice a' (n + 1) c')
    rw [HN.out] at this ⊢
    simpa using this
  · rw [HN.out] at o2 ⊢
    refine (o2.mono fun k hk h => ?_).st (b := b) (fun h => h.2 rfl) 1 _
    rcases h with h | h
    · exact h
    · have := h.1
      simp at this
      exact ⟨by omega, by omega⟩
  · exact ((f1.al _).trans (f2.mono fun k _ h => h.1)).sc hb0 _ _
set_option maxRecDepth 100000 in
theorem writeString_ok {w : World} {M b : Nat} {l : List UInt8} (h : Bld w M b l) (s : ByteArray) (hM : M ≤ w.heap.size) (hl : l.length + s.size ≤ 140737488355328) :
    Calls Tryz.prog 85 #[.pointer (some ⟨b, 0, none⟩), .string s] w fun e w' => e = .returned (.tuple #[.int .i64 s.size, .nilIface]) ∧ Bld w' M b (l ++ s.data.toList) ∧ Frm (fun k => M ≤ k) w w' := by
  have hcc := copyCheck_ok h
  clear h
  go_enter Tryz.func85, Tryz.ntmps85
  go_wp2_with (fail)
  refine hcc.mono ?_
  rintro e w1 ⟨rfl, ⟨hb0, a, n, c, hb, o⟩, f1⟩
  clear hcc
  have c1 : w1.cell? ⟨b, 1, none⟩ = some (.slice a n c) := obj_cell hb 1
  have hnl := o.cap.1
  have HN := Lib.hid hnl
  clear hnl
  have nb := lt_of_block hb
  have z1 := f1.size
  have hsr : Src Tryz.prog eU8.k 9 (.string s) s.size (eU8.flat s.data.toList) w1 := by
    rw [eU8_flat]
    exact Src.ofString w1 Tryz.underlying9 s
  have hsl : s.size = s.data.toList.length := by rw [Array.length_toList]; rfl
  have HSL := Lib.hid hsl
  clear hsl
  go_wp2_with (at_builtin; refine wpList_ap _ rfl (.tmp 12) (.tmp 13) 63 9 rfl 5 _ 1 Tryz.underlying63 i_u8e rfl o hsr HSL.out rfl rfl ?c1 ?c2 ?_)
  case c1 => unfold maxLen; omega
  case c2 => omega
  intro a' c' w2 o2 f2
  have hb2 := f2.obj hb (by omega)
  have d0 : w2.cell? ⟨b, 0, none⟩ = some (.pointer (some ⟨b, 0, none⟩)) := obj_cell hb2 0
  have d1 : w2.cell? ⟨b, 1, none⟩ = some (.slice a n c) := obj_cell hb2 1
  have z2 := obj_frz hb2
  have nb2 := lt_of_block hb2
  rw [← HN.out] at o2
  go_wp2
  go_ret2
  refine ⟨rfl, .inr ⟨hb0, a', n + s.size, c', ?_, ?_⟩, ?_⟩
  · have := obj_setCell (i := 1) hb2 (.slice a' (n + s.size) c')
    rw [HN.out] at this ⊢
    simpa using this
  · rw [HN.out] at o2 ⊢
    refine (o2.mono fun k hk h => ?_).st (b := b) (fun h => h.2 rfl) 1 _
    rcases h with h | h
    · exact h
    · have := h.1
      exact ⟨by omega, by omega⟩
  · exact ((f1).trans (f2.mono fun k _ h => h.1)).sc hb0 _ _
/-- String, of a Builder that was written to. -/
theorem bldString_ok {w : World} {M b : Nat} {l : List UInt8} (h : Bld w M b l) (hl : l ≠ []) (hM : M ≤ w.heap.size) :
    Calls Tryz.prog 86 #[.pointer (some ⟨b, 0, none⟩)] w fun e w' => e = .returned (.string ⟨l.toArray⟩) ∧ Frm (fun k => M ≤ k) w w' := by
  have h' : Lib.IsBuilderF 115 5 M b (Lib.byteCells l) w := h.elim (fun h => .inl (h.toF fun _ _ => .inr hl)) fun h => .inr (h.toF fun _ _ => .inr hl)
  refine (Tryz.Builder_String_any_k M b l w h' hM).mono ?_
  rintro e w' ⟨rfl, -, hb, -⟩
  exact ⟨rfl, Frm.of_below hb⟩
end Go.Proofs.YtofikfkgiblblaaGreatDoor

/- The words of tattlelaw0 over texts and numbers. -/
namespace Go.Proofs.YtofikfkgiblblaaGreatDoor
set_option linter.unusedVariables false
set_option linter.unusedSimpArgs false
open Go.RowKit Go.Lib Go.Tt
set_option maxRecDepth 100000 in
theorem sameInts_ok {w : World} {a a' : Option Addr} {n c n' c' : Nat} {l l' : List Int} (h : RdS w eInt (.slice a n c) l) (h' : RdS w eInt (.slice a' n' c') l') :
    Calls Tryz.prog 26 #[.slice a n c, .slice a' n' c'] w fun e w' => e = .returned (.bool (decide (l = l'))) ∧ ∃ m, w' = w.drewN m := by
  obtain ⟨hn, hc1, hc2, -⟩ := h.facts
  obtain ⟨hn', hc1', hc2', -⟩ := h'.facts
  unfold maxLen at hc2 hc2'
  have HN := Lib.hid hn
  have HN' := Lib.hid hn'
  clear hn hn'
  by_cases hl : n = n'
  · subst hl
    go_enter Tryz.func26, Tryz.ntmps26
    go_wp2
    go_loopg [5] (n + 1) (fun g iv wr => ∃ (i m : Nat), iv = .int .i64 i ∧ wr = w.drewN m ∧ i ≤ n ∧ g = n - i + 1 ∧ l.take i = l'.take i)
    case atStart => exact ⟨0, 0, rfl, rfl, Nat.zero_le _, by omega, rfl⟩
    case round =>
      obtain ⟨i, m, rfl, rfl, hi, hg, hp⟩ := hrel
      have hG := Lib.hid hg
      have hP := Lib.hid hp
      clear hg hp
      by_cases hlt : i < n
      · have l1 : i < l.length := by rw [← HN.out]; exact hlt
        have l2 : i < l'.length := by rw [← HN'.out]; exact hlt
        obtain ⟨b, off, rfl, -, hc⟩ := h.at l1
        obtain ⟨b', off', rfl, -, hc'⟩ := h'.at l2
        have e0 : w.cell? ⟨b, off + i, none⟩ = some (.int .i64 l[i]) := by have := hc 0 _ rfl; simpa [show eInt.k = 1 from rfl] using this
        have d0 : w.cell? ⟨b', off' + i, none⟩ = some (.int .i64 l'[i]) := by have := hc' 0 _ rfl; simpa [show eInt.k = 1 from rfl] using this
        clear hc hc' h h'
        obtain ⟨x, hx⟩ : ∃ x, Hid (x = l[i]) := ⟨_, Lib.hid rfl⟩
        obtain ⟨y, hy⟩ : ∃ y, Hid (y = l'[i]) := ⟨_, Lib.hid rfl⟩
        rw [← hx.out] at e0
        rw [← hy.out] at d0
        go_wp2
        refine wp_region_plan [([0, 1, 2, 3, 4, 5, 6, 7, 8], [])] 26 (by kernel_rfl) (by kernel_rfl) (by simp) ?_
        intro N hN
        simp only [wpSegs, List.map_cons, List.map_nil, List.getD_cons_zero, List.getD_cons_succ]
        go_wp2
        · go_ret
          exact ⟨by simp only [Act.tmps]; rw [decide_eq_false (ne_at l1 l2 hx hy (int_ne_of ‹_›))]; rfl, _, rfl⟩
        · go_roundg (n - (i + 1) + 1)
          case measure => have := hG.out; omega
          case rel => exact ⟨i + 1, _, by go_num, rfl, by omega, rfl, take_step l1 l2 hP.out (by rw [← hx.out, ← hy.out]; exact int_eq_of ‹_›)⟩
      · have hii : ¬ ((i : Int) < n) := by omega
        go_wp2
        go_ret
        refine ⟨?_, m, rfl⟩
        have hP := hP.out
        rw [List.take_of_length_le (by have := HN.out; omega), List.take_of_length_le (by have := HN'.out; omega)] at hP
        rw [decide_eq_true hP]; rfl
  · have hr : decide (l = l') = false := decide_eq_false fun e => hl (by rw [HN.out, HN'.out, e])
    rw [hr]
    have hl' : ¬ ((n : Int) = n') := by omega
    clear hr
    go_enter Tryz.func26, Tryz.ntmps26
    go_wp2
    go_ret
    exact ⟨rfl, 0, rfl⟩
end Go.Proofs.YtofikfkgiblblaaGreatDoor

/- Cells: how they are told; copies. -/
namespace Go.Proofs.YtofikfkgiblblaaGreatDoor
set_option linter.unusedVariables false
set_option linter.unusedSimpArgs false
open Go.RowKit Go.Lib Go.Tt
structure CellV where
  kind : Int
  set : Bool
  st : Int × Int
  value : ByteArray
  num : Int × Int
  ents : List En
  elems : List El
  seen : List Int
/-- A cell's value: its three slices are given. -/
def cval (c : CellV) (ve vl vs : Value) : Value := .agg #[.int .i64 c.kind, .bool c.set, .int .i64 c.st.1, .int .i64 c.st.2, .string c.value, .int .i64 c.num.1, .int .i64 c.num.2, ve, vl, vs]
/-- A cell's slices read. -/
structure CellR (w : World) (c : CellV) (ve vl vs : Value) : Prop where
  e : RdS w eEn ve c.ents
  l : RdS w eEl vl c.elems
  s : RdS w eInt vs c.seen
/-- A cell's slices are the call's own. -/
structure CellO (w : World) (F : Nat → Prop) (c : CellV) (ve vl vs : Value) : Prop where
  e : Ow w F 62 eEn ve c.ents
  l : Ow w F 59 eEl vl c.elems
  s : Ow w F 3 eInt vs c.seen
/-- A cell is no greater than what may be copied. -/
structure CellB (c : CellV) : Prop where
  e : c.ents.length * 32 ≤ reachBytes
  l : c.elems.length * 48 ≤ reachBytes
  s : c.seen.length * 8 ≤ reachBytes
theorem CellO.rd {w : World} {F : Nat → Prop} {c : CellV} {ve vl vs : Value} (h : CellO w F c ve vl vs) : CellR w c ve vl vs := ⟨h.e.rd, h.l.rd, h.s.rd⟩
theorem CellO.mono {w : World} {F G : Nat → Prop} {c : CellV} {ve vl vs : Value} (h : CellO w F c ve vl vs) (hs : ∀ k, k < w.heap.size → F k → G k) : CellO w G c ve vl vs := ⟨h.e.mono hs, h.l.mono hs, h.s.mono hs⟩
theorem CellO.frm {w w' : World} {F G : Nat → Prop} {c : CellV} {ve vl vs : Value} (h : CellO w F c ve vl vs) (hf : Frm G w w') (hd : ∀ k, F k → ¬ G k) : CellO w' F c ve vl vs := ⟨h.e.frm hf hd, h.l.frm hf hd, h.s.frm hf hd⟩
theorem CellR.below {B : Nat} {w w' : World} {c : CellV} {ve vl vs : Value} (h : CellR w c ve vl vs) (hb : Below w.heap.size w w') : CellR w' c ve vl vs :=
  ⟨h.e.below hb fun _ hg => h.e.blk_lt hg, h.l.below hb fun _ hg => h.l.blk_lt hg, h.s.below hb fun _ hg => h.s.blk_lt hg⟩
theorem CellR.no {w w' : World} {c : CellV} {ve vl vs : Value} (h : CellR w c ve vl vs) (f : Frm No w w') : CellR w' c ve vl vs :=
  ⟨h.e.frm f fun _ _ h => h, h.l.frm f fun _ _ h => h, h.s.frm f fun _ _ h => h⟩

theorem cellO_fin {w w3 w' : World} {M : Nat} {c : CellV} {ve vl vs : Value} (h1 : Ow w3 (fun k => M ≤ k) 62 eEn ve c.ents) (h2 : Ow w3 (fun k => M ≤ k) 59 eEl vl c.elems) (h3 : Ow w3 (fun k => M ≤ k) 3 eInt vs c.seen)
    (f : Frm (fun k => k < M) w3 w') (hM : w.heap.size ≤ M) : CellO w' (Nw No w w') c ve vl vs :=
  ⟨(h1.frm f fun _ hk => Nat.not_lt.2 hk).fin hM, (h2.frm f fun _ hk => Nat.not_lt.2 hk).fin hM, (h3.frm f fun _ hk => Nat.not_lt.2 hk).fin hM⟩
set_option maxHeartbeats 1000000 in
set_option maxRecDepth 100000 in
theorem copyCell_ok {w : World} {c : CellV} {ve vl vs : Value} (h : CellR w c ve vl vs) (hb : CellB c) :
    Calls Tryz.prog 9 #[cval c ve vl vs] w fun e w' => ∃ ve' vl' vs', e = .returned (cval c ve' vl' vs') ∧ CellO w' (Nw No w w') c ve' vl' vs' ∧ Frm No w w' := by
  obtain ⟨he, hl, hs⟩ := h
  obtain ⟨ae, ce, rfl⟩ := he.sh
  obtain ⟨al, cl, rfl⟩ := hl.sh
  obtain ⟨at_, cs, rfl⟩ := hs.sh
  obtain ⟨b1, b2, b3⟩ := hb
  unfold reachBytes at b1 b2 b3
  unfold cval
  go_enter Tryz.func9, Tryz.ntmps9
  go_wp2_with (at_builtin; refine wpList_ap _ rfl (.tmp 3) (.tmp 5) 26 26 rfl 62 _ 32 Tryz.underlying26 i_en rfl (Ow.nil _ No _ eEn _) ((he.no ((((Frm.refl No w).al _).al _).al _)).src Tryz.underlying26) rfl rfl rfl ?_ ?_ ?_)
  · unfold maxLen; simp; omega
  · simp; omega
  intro a1 c1 w1 o1 f1
  have g1 : Frm No w w1 := ((((Frm.refl No w).al _).al _).al _).trans f1
  have B1 := f1.obj (al_old (al_old (heap_alloc_new w _))) id
  have C1 := f1.obj (al_old (heap_alloc_new (w.alloc _) _)) id
  rw [show (w.alloc (.cells #[.int .i64 c.kind, .bool c.set, .int .i64 c.st.1, .int .i64 c.st.2, .string c.value, .int .i64 c.num.1, .int .i64 c.num.2, .slice ae c.ents.length ce, .slice al c.elems.length cl, .slice at_ c.seen.length cs] 30)).heap.size = w.heap.size + 1 by simp] at C1
  obtain ⟨q10, q11, q12, q13, q14, q15, q16, q17, q18, q19⟩ := obj10 B1
  have r1 := obj_frz B1
  replace o1 := o1.from (w.heap.size + 3) (by simp)
  have z1 : w.heap.size + 3 ≤ w1.heap.size := by have := f1.size; simpa using this
  clear f1
  have n1 : w.heap.size < w1.heap.size := by omega

  go_wp2_with (at_builtin; refine wpList_ap _ rfl (.tmp 8) (.tmp 10) 27 27 rfl 59 _ 48 Tryz.underlying27 i_el rfl (Ow.nil _ No _ eEl _) ((hl.no ((g1.st (Nat.le_refl _) _ _).al _)).src Tryz.underlying27) rfl rfl rfl ?_ ?_ ?_)
  · unfold maxLen; simp; omega
  · simp; omega
  intro a2 c2 w2 o2 f2
  have g2 : Frm No w w2 := ((g1.st (Nat.le_refl _) _ _).al _).trans f2
  have C2 := f2.obj (al_old (obj_setCell_ne C1 (by omega) _)) id
  have B2 := f2.obj (al_old (obj_setCell B1 _)) id
  replace o1 := ((o1.st (b := w.heap.size) (by omega) 7 (.slice a1 c.ents.length c1)).al (.cells #[] 59)).no f2
  replace o2 := o2.from (w.heap.size + 3) (by simp; omega)
  have z2 : w.heap.size + 3 ≤ w2.heap.size := by have := f2.size; simp at this; omega
  clear f2 q10 q11 q12 q13 q14 q15 q16 q17 q18 q19 r1 n1 B1
  have n2 : w.heap.size < w2.heap.size := by omega
  simp only [List.setIfInBounds_toArray, List.set_cons_zero, List.set_cons_succ] at B2
  obtain ⟨q20, q21, q22, q23, q24, q25, q26, q27, q28, q29⟩ := obj10 B2
  have r2 := obj_frz B2
  go_wp2_with (at_builtin; refine wpList_ap _ rfl (.tmp 13) (.tmp 15) 28 28 rfl 3 _ 8 Tryz.underlying28 i_int rfl (Ow.nil _ No _ eInt _) ((hs.no ((g2.st (Nat.le_refl _) _ _).al _)).src Tryz.underlying28) rfl rfl rfl ?_ ?_ ?_)
  · unfold maxLen; simp; omega
  · simp; omega
  intro a3 c3 w3 o3 f3
  have g3 : Frm No w w3 := ((g2.st (Nat.le_refl _) _ _).al _).trans f3
  have C3 := f3.obj (al_old (obj_setCell_ne C2 (by omega) _)) id
  have B3 := f3.obj (al_old (obj_setCell B2 _)) id
  replace o1 := ((o1.st (b := w.heap.size) (by omega) 8 (.slice a2 c.elems.length c2)).al (.cells #[] 3)).no f3
  replace o2 := ((o2.st (b := w.heap.size) (by omega) 8 (.slice a2 c.elems.length c2)).al (.cells #[] 3)).no f3
  replace o3 := o3.from (w.heap.size + 3) (by simp; omega)
  clear f3 q20 q21 q22 q23 q24 q25 q26 q27 q28 q29 r2 n2 B2
  simp only [List.setIfInBounds_toArray, List.set_cons_zero, List.set_cons_succ] at B3
  obtain ⟨q30, q31, q32, q33, q34, q35, q36, q37, q38, q39⟩ := obj10 B3
  have r3 := obj_frz B3
  have n3 : w.heap.size < w3.heap.size := lt_of_block B3
  obtain ⟨p30, p31, p32, p33, p34, p35, p36, p37, p38, p39⟩ := obj10 C3
  have r4 := obj_frz C3
  have n4 : w.heap.size + 1 < w3.heap.size := lt_of_block C3
  clear C1 C2 B3 C3
  go_wp2
  refine bodyPost_ret (v := .agg #[.int .i64 c.kind, .bool c.set, .int .i64 c.st.1, .int .i64 c.st.2, .string c.value, .int .i64 c.num.1, .int .i64 c.num.2, .slice a1 c.ents.length c1, .slice a2 c.elems.length c2, .slice a3 c.seen.length c3]) (by simp [results, Tryz.results9, go_sem, *]) rfl ?_
  refine ⟨_, _, _, rfl, cellO_fin (M := w.heap.size + 3) o1 o2 o3 ?_ (by omega), ?_⟩
  · iterate 11 refine Frm.sc (F := fun k => k < w.heap.size + 3) ?_ (by show _ < _; omega) _ _
    exact Frm.refl _ _
  · iterate 11 refine Frm.st ?_ (by omega) _ _
    exact g3
end Go.Proofs.YtofikfkgiblblaaGreatDoor

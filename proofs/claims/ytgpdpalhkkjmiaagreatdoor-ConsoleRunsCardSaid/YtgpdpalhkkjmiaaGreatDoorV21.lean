/- Merged: Bld Txt2. -/
import Derived.StillTailTactics
import Derived.Test.YtgpdpalhkkjmiaaGreatDoorV05
import Derived.Test.YtgpdpalhkkjmiaaGreatDoorV06
import Derived.Test.YtgpdpalhkkjmiaaGreatDoorV12
import Derived.Test.YtgpdpalhkkjmiaaGreatDoorV20
/- strings.Builder: what it holds; copyCheck, WriteByte, WriteString, String. -/
namespace Go.Proofs.YtgpdpalhkkjmiaaGreatDoor
set_option linter.unusedVariables false
set_option linter.unusedSimpArgs false
set_option linter.unusedVariables false
set_option linter.unusedSimpArgs false
open Go.RowKit Go.Lib Go.Tt
def eU8 : Enc UInt8 := ⟨1, fun c => [.int .u8 c.toNat], fun _ => rfl, fun x u hu => by simp at hu; subst hu; rfl, by decide⟩
theorem eU8_flat (l : List UInt8) : eU8.flat l = Lib.byteCells l := by
  induction l with
  | nil => rfl
  | cons x l ih => rw [eU8.flat_cons, ih]; rfl
theorem i_u8e : (Tryz.prog.info? 5).map (fun i => (i.zero, i.size, i.bytes)) = some (some (.int .u8 0), eU8.k, 1) := by kernel_rfl
/-- Block b is a Builder, made behind M, that holds l; p: what its first cell holds. -/
def BldAt (w : World) (M b : Nat) (p : Value) (l : List UInt8) : Prop :=
  M ≤ b ∧ ∃ a n c, w.heap[b]? = some (.cells #[p, .slice a n c] 41 (0, 0)) ∧ Ow w (fun k => M ≤ k ∧ k ≠ b) 5 eU8 (.slice a n c) l
def Bld (w : World) (M b : Nat) (l : List UInt8) : Prop := BldAt w M b (.pointer none) l ∨ BldAt w M b (.pointer (some ⟨b, 0, none⟩)) l
theorem BldAt.frm {w w' : World} {M b : Nat} {p : Value} {l : List UInt8} (h : BldAt w M b p l) (f : Frm (fun k => k < M) w w') : BldAt w' M b p l := by
  obtain ⟨hM, a, n, c, hb, o⟩ := h
  exact ⟨hM, a, n, c, f.obj hb (by omega), o.frm f fun k hk e => by omega⟩
theorem Bld.frm {w w' : World} {M b : Nat} {l : List UInt8} (h : Bld w M b l) (f : Frm (fun k => k < M) w w') : Bld w' M b l := h.elim (fun h => .inl (h.frm f)) fun h => .inr (h.frm f)
theorem Bld.no {w w' : World} {M b : Nat} {l : List UInt8} (h : Bld w M b l) (f : Frm No w w') : Bld w' M b l := h.frm (f.mono fun _ _ h => h.elim)
theorem own_up {w : World} {e k n M : Nat} {v : Value} {xs : List Value} (h : w.ownsRow 0 e k v n xs) (hM : ∀ g, v.ownBlock = some g → M ≤ g) : w.ownsRow M e k v n xs := by
  refine ⟨h.1, ?_⟩
  rcases h.2 with hn | ⟨g, cap, cur, rfl, hb, rest⟩
  · exact .inl hn
  · exact .inr ⟨g, cap, cur, rfl, hM g rfl, rest⟩
theorem BldAt.toF {w : World} {M b : Nat} {p : Value} {l : List UInt8} (h : BldAt w M b p l) (hp : ∀ a, Ow w (fun k => M ≤ k ∧ k ≠ b) 5 eU8 (.slice a 0 0) l → a = none ∨ l ≠ []) : Lib.BuilderAtF 41 5 M b p (Lib.byteCells l) w := by
  obtain ⟨hM, a, n, c, hb, o⟩ := h
  refine ⟨hM, _, hb, ?_, ?_⟩
  · rcases o with ⟨a', h1, rfl⟩ | ⟨h1, h2⟩
    · simp only [Value.slice.injEq] at h1
      obtain ⟨rfl, rfl, rfl⟩ := h1
      rcases hp a (.inl ⟨a, rfl, rfl⟩) with rfl | h
      · exact World.ownsRowF_of (World.ownsRow_nil w M 5 1)
      · exact absurd rfl h
    · rw [eU8_flat] at h1
      have := World.ownsRowF_of (own_up (M := M) h1 fun g hg => (h2 g hg).1)
      rwa [← Lib.byteCells_length l] at this
  · intro e
    rcases o with ⟨a', h1, rfl⟩ | ⟨h1, h2⟩
    · simp only [Value.slice.injEq] at h1
      obtain ⟨rfl, rfl, rfl⟩ := h1
      rcases hp a (.inl ⟨a, rfl, rfl⟩) with rfl | h
      · simp [Value.ownBlock] at e
      · exact absurd rfl h
    · exact (h2 b e).2 rfl
set_option maxRecDepth 100000 in
theorem copyCheck_ok {w : World} {M b : Nat} {l : List UInt8} (h : Bld w M b l) :
    Calls Tryz.prog 26 #[.pointer (some ⟨b, 0, none⟩)] w fun e w' => e = .returned (.tuple #[]) ∧ BldAt w' M b (.pointer (some ⟨b, 0, none⟩)) l ∧ Frm (fun k => M ≤ k) w w' := by
  rcases h with h | h
  · obtain ⟨hM, a, n, c, hb, o⟩ := h
    have c0 : w.cell? ⟨b, 0, none⟩ = some (.pointer none) := obj_cell hb 0
    have z0 := obj_frz hb
    have hsh : w.shape? b = some (41, 2) := by simp [World.shape?, hb]
    obtain ⟨j, hj, hjs⟩ := Option.map_eq_some_iff.1 Tryz.Builder_Extra_169.sizeBuilder
    go_enter Tryz.func26, Tryz.ntmps26
    go_wp2
    rw [Lib.run_to_unsafe w ⟨b, 0, none⟩ Tryz.underlying39 Tryz.underlying94 hj (by rw [hjs]; decide) hsh (Nat.zero_lt_succ 1)]
    simp only [Result.andThen]
    rw [Oper.upon_value]
    go_wp2
    rw [run_callFunc_extern Tryz.func45 (by kernel_rfl) (by kernel_rfl) (by kernel_rfl) (e := Extern.AbiNoEscape.same) (by kernel_rfl)]
    rw [Lib.run_noEscape]
    simp only [Result.andThen]
    rw [Oper.upon_value]
    go_wp2
    rw [Lib.run_from_unsafe w ⟨b, 0, none⟩ Tryz.underlying94 Tryz.underlying39 hj hsh Tryz.Builder_Extra_169.liesBuilder]
    simp only [Result.andThen]
    rw [Oper.upon_value]
    go_wp2
    go_end0
    refine ⟨rfl, ⟨hM, a, n, c, ?_, ?_⟩, Frm.setCell w ⟨b, 0, none⟩ _ hM⟩
    · have := obj_setCell (i := 0) hb (.pointer (some ⟨b, 0, none⟩))
      simpa using this
    · exact o.st (b := b) (fun h => h.2 rfl) 0 _
  · obtain ⟨hM, a, n, c, hb, o⟩ := h
    have c0 : w.cell? ⟨b, 0, none⟩ = some (.pointer (some ⟨b, 0, none⟩)) := obj_cell hb 0
    obtain ⟨j, hj, -⟩ := Option.map_eq_some_iff.1 Tryz.Builder_Extra_169.sizeBuilder
    go_enter Tryz.func26, Tryz.ntmps26
    go_wp2
    rw [Lib.run_neq_ptr_same w _ Tryz.underlying39 hj]
    go_wp2
    go_end0
    exact ⟨rfl, ⟨hM, a, n, c, hb, o⟩, Frm.refl _ _⟩
set_option maxRecDepth 100000 in
theorem writeString_ok {w : World} {M b : Nat} {l : List UInt8} (h : Bld w M b l) (s : ByteArray) (hM : M ≤ w.heap.size) (hl : l.length + s.size ≤ 140737488355328) :
    Calls Tryz.prog 18 #[.pointer (some ⟨b, 0, none⟩), .string s] w fun e w' => e = .returned (.tuple #[.int .i64 s.size, .nilIface]) ∧ Bld w' M b (l ++ s.data.toList) ∧ Frm (fun k => M ≤ k) w w' := by
  have hcc := copyCheck_ok h
  clear h
  go_enter Tryz.func18, Tryz.ntmps18
  go_wp2_with (fail)
  refine hcc.mono ?_
  rintro e w1 ⟨rfl, ⟨hb0, a, n, c, hb, o⟩, f1⟩
  clear hcc
  have c1 : w1.cell? ⟨b, 1, none⟩ = some (.slice a n c) := obj_cell hb 1
  have hnl := o.cap.1
  have HN := Lib.hid hnl
  clear hnl
  have nb := lt_of_block hb
  have z1 := f1.size
  have hsr : Src Tryz.prog eU8.k 9 (.string s) s.size (eU8.flat s.data.toList) w1 := by
    rw [eU8_flat]
    exact Src.ofString w1 Tryz.underlying9 s
  have hsl : s.size = s.data.toList.length := by rw [Array.length_toList]; rfl
  have HSL := Lib.hid hsl
  clear hsl
  go_wp2_with (at_builtin; refine wpList_ap _ rfl (.tmp 12) (.tmp 13) 27 9 rfl 5 _ 1 Tryz.underlying27 i_u8e rfl o hsr HSL.out rfl rfl ?c1 ?c2 ?_)
  case c1 => unfold maxLen; omega
  case c2 => omega
  intro a' c' w2 o2 f2
  have hb2 := f2.obj hb (by omega)
  have d0 : w2.cell? ⟨b, 0, none⟩ = some (.pointer (some ⟨b, 0, none⟩)) := obj_cell hb2 0
  have d1 : w2.cell? ⟨b, 1, none⟩ = some (.slice a n c) := obj_cell hb2 1
  have z2 := obj_frz hb2
  have nb2 := lt_of_block hb2
  rw [← HN.out] at o2
  go_wp2
  go_ret2
  refine ⟨rfl, .inr ⟨hb0, a', n + s.size, c', ?_, ?_⟩, ?_⟩
  · have := obj_setCell (i := 1) hb2 (.slice a' (n + s.size) c')
    rw [HN.out] at this ⊢
    simpa using this
  · rw [HN.out] at o2 ⊢
    refine (o2.mono fun k hk h => ?_).st (b := b) (fun h => h.2 rfl) 1 _
    rcases h with h | h
    · exact h
    · have := h.1
      exact ⟨by omega, by omega⟩
  · exact ((f1).trans (f2.mono fun k _ h => h.1)).sc hb0 _ _
/-- String, of a Builder that was written to. -/
theorem bldString_ok {w : World} {M b : Nat} {l : List UInt8} (h : Bld w M b l) (hl : l ≠ []) (hM : M ≤ w.heap.size) :
    Calls Tryz.prog 20 #[.pointer (some ⟨b, 0, none⟩)] w fun e w' => e = .returned (.string ⟨l.toArray⟩) ∧ Frm (fun k => M ≤ k) w w' := by
  have h' : Lib.IsBuilderF 41 5 M b (Lib.byteCells l) w := h.elim (fun h => .inl (h.toF fun _ _ => .inr hl)) fun h => .inr (h.toF fun _ _ => .inr hl)
  refine (Tryz.Builder_String_any_k M b l w h' hM).mono ?_
  rintro e w' ⟨rfl, -, hb, -⟩
  exact ⟨rfl, Frm.of_below hb⟩
end Go.Proofs.YtgpdpalhkkjmiaaGreatDoor

/- Texts told: cell.Text. -/
namespace Go.Proofs.YtgpdpalhkkjmiaaGreatDoor
set_option linter.unusedVariables false
set_option linter.unusedSimpArgs false
open Go.RowKit Go.Lib Go.Tt
/-- A digit of sixteen. -/
def hexD (n : Nat) : UInt8 := if n < 10 then UInt8.ofNat (48 + n) else UInt8.ofNat (87 + n)
/-- A byte told. -/
def qc (c : UInt8) : List UInt8 := if c.toNat = 34 ∨ c.toNat = 92 then [92, c] else if c.toNat < 32 ∨ 126 < c.toNat then [92, 117, 48, 48, hexD (c.toNat / 16), hexD (c.toNat % 16)] else [c]
/-- A text told. -/
def quoteL (l : List UInt8) : List UInt8 := 34 :: (l.flatMap qc ++ [34])
theorem qc_len (c : UInt8) : (qc c).length ≤ 6 := by unfold qc; split <;> (try split) <;> simp
theorem flatQ_len (l : List UInt8) : (l.flatMap qc).length ≤ 6 * l.length := by
  induction l with
  | nil => simp
  | cons x l ih => rw [List.flatMap_cons, List.length_append, List.length_cons]; have := qc_len x; omega
theorem and_u8_15 (n : Nat) (h : n < 256) : bits .and .u8 (n : Int) 15 = (n : Int) % 16 := by
  have h1 : (BitVec.ofInt 8 15).toNat = 2 ^ 4 - 1 := by decide
  have key : (BitVec.ofInt 8 (n : Int) &&& BitVec.ofInt 8 15).toNat = ((n : Int) % ((2 ^ 8 : Nat) : Int)).toNat % 2 ^ 4 := by
    rw [BitVec.toNat_and, BitVec.toNat_ofInt, h1, Nat.and_two_pow_sub_one_eq_mod]
  show IntKind.u8.wrap ((BitVec.ofInt 8 (n : Int) &&& BitVec.ofInt 8 15).toNat : Nat) = (n : Int) % 16
  rw [key, IntKind.wrap_u8]
  omega
theorem dig_cut (k : Nat) (h : k < 16) : (ByteArray.mk #[48, 49, 50, 51, 52, 53, 54, 55, 56, 57, 97, 98, 99, 100, 101, 102]).extract k (k + 1) = ⟨#[hexD k]⟩ := by
  have : ∀ k : Fin 16, (ByteArray.mk #[48, 49, 50, 51, 52, 53, 54, 55, 56, 57, 97, 98, 99, 100, 101, 102]).extract k (k + 1) = ⟨#[hexD k]⟩ := by decide
  exact this ⟨k, h⟩
theorem flat_step (s : ByteArray) {i : Nat} (h : i < s.size) : (s.data.toList.take (i + 1)).flatMap qc = (s.data.toList.take i).flatMap qc ++ qc s[i] := by
  rw [List.take_succ_eq_append_getElem (by simpa using h), List.flatMap_append]
  simp
  rfl
theorem one_cut (s : ByteArray) {i : Nat} (h : i < s.size) : (ByteArray.mk #[92] ++ s.extract i (i + 1)).data.toList = [92, s[i]] := by
  have h1 : i < s.data.size := h
  have : s.data.extract i (i + 1) = #[s.data[i]] := by
    apply Array.ext
    · simp; omega
    · intro j h1 h2
      simp at h1 h2
      obtain rfl : j = 0 := by omega
      simp
  rw [ByteArray.data_append, ByteArray.data_extract, this]
  rfl
end Go.Proofs.YtgpdpalhkkjmiaaGreatDoor

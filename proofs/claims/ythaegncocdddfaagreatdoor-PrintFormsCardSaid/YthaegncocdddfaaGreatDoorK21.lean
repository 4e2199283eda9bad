/- Merged: RepL Rep2 Cvt Rep3. -/
import Derived.Deep.LoopGhost
import Derived.Lib.ConvBytes
import Derived.Lib.LazyBuf
import Derived.Test.YthaegncocdddfaaGreatDoorK03
import Derived.Test.YthaegncocdddfaaGreatDoorK19
import Derived.Test.YthaegncocdddfaaGreatDoorK20
/- strings.NewReplacer's work on a text, in plain words: how long a told text is. No program in sight. -/
namespace Go.Tt
set_option linter.unusedVariables false
set_option linter.unusedSimpArgs false
set_option linter.unusedVariables false
set_option linter.unusedSimpArgs false
theorem dqc_q : dqc 34 = [92, 34] := rfl
theorem dqc_b : dqc 92 = [92, 92] := rfl
theorem dqc_n : dqc 10 = [92, 110] := rfl
theorem dqc_o {c : UInt8} (h1 : c ≠ 34) (h2 : c ≠ 92) (h3 : c ≠ 10) : dqc c = [c] := by
  have k : ∀ d : UInt8, c ≠ d → (c.toNat == d.toNat) = false := fun d hd => by
    rw [beq_eq_false_iff_ne]
    exact fun e => hd (UInt8.toNat_inj.1 e)
  unfold dqc
  have e1 : (c.toNat == 34) = false := k 34 h1
  have e2 : (c.toNat == 92) = false := k 92 h2
  have e3 : (c.toNat == 10) = false := k 10 h3
  simp [e1, e2, e3]
theorem dqc_len (c : UInt8) : (dqc c).length = 1 + ((if c = 34 then 1 else 0) + (if c = 92 then 1 else 0) + (if c = 10 then 1 else 0)) := by
  by_cases h1 : c = 34
  · subst h1; rfl
  by_cases h2 : c = 92
  · subst h2; rfl
  by_cases h3 : c = 10
  · subst h3; rfl
  rw [dqc_o h1 h2 h3, if_neg h1, if_neg h2, if_neg h3]
  rfl
theorem dq_len (l : List UInt8) : (l.flatMap dqc).length = l.length + (l.count 34 + l.count 92 + l.count 10) := by
  induction l with
  | nil => rfl
  | cons c l ih =>
    rw [List.flatMap_cons, List.length_append, ih, dqc_len]
    simp only [List.count_cons, List.length_cons, beq_iff_eq]
    split <;> split <;> split <;> omega
theorem dq_same {l : List UInt8} (h1 : l.count 34 = 0) (h2 : l.count 92 = 0) (h3 : l.count 10 = 0) : l.flatMap dqc = l := by
  induction l with
  | nil => rfl
  | cons c l ih =>
    simp only [List.count_cons, beq_iff_eq] at h1 h2 h3
    have n1 : c ≠ 34 := by intro e; rw [if_pos e] at h1; omega
    have n2 : c ≠ 92 := by intro e; rw [if_pos e] at h2; omega
    have n3 : c ≠ 10 := by intro e; rw [if_pos e] at h3; omega
    rw [List.flatMap_cons, dqc_o n1 n2 n3, ih (by omega) (by omega) (by omega)]
    rfl
theorem dq_take {l : List UInt8} {i : Nat} (h : i < l.length) : (l.take (i + 1)).flatMap dqc = (l.take i).flatMap dqc ++ dqc l[i] := by
  rw [List.take_succ_eq_append_getElem h, List.flatMap_append]
  simp
theorem dq_le {l : List UInt8} (i : Nat) : ((l.take i).flatMap dqc).length ≤ (l.flatMap dqc).length := by
  have : l.flatMap dqc = (l.take i).flatMap dqc ++ (l.drop i).flatMap dqc := by
    rw [← List.flatMap_append, List.take_append_drop]
  rw [this, List.length_append]
  omega
/-- The replaced bytes. -/
def isRep (c : UInt8) : Bool := c == 34 || c == 92 || c == 10
theorem dqc_rep {c : UInt8} (h : isRep c = false) : dqc c = [c] := by
  unfold isRep at h
  simp at h
  exact dqc_o h.1.1 h.1.2 h.2
theorem dqc_two {c : UInt8} (h : isRep c = true) : (dqc c).length = 2 := by
  unfold isRep at h
  simp at h
  rcases h with (rfl | rfl) | rfl <;> rfl
end Go.Tt

/- package strings' Replacer, walked: NewReplacer, build. -/
namespace Go.Proofs.YthaegncocdddfaaGreatDoor
set_option linter.unusedVariables false
set_option linter.unusedSimpArgs false
open Go.RowKit Go.Lib Go.Tt
/-- What doc.text hands to NewReplacer. -/
def rp6 : List ByteArray := [⟨#[34]⟩, ⟨#[92, 34]⟩, ⟨#[92]⟩, ⟨#[92, 92]⟩, ⟨#[10]⟩, ⟨#[92, 110]⟩]
/-- A Replacer's block. -/
def rcs (x m : Int) (r v : Value) : Array Value := #[.int .u32 x, .int .i32 m, .int .u32 0, r, v]
theorem newRep_ok {w : World} {v : Value} (hr : RdS w eStr v rp6) :
    Calls Tryz.prog 115 #[v] w fun e w' => ∃ b a c, e = .returned (.pointer (some ⟨b, 0, none⟩)) ∧ w.heap.size ≤ b ∧ w'.heap[b]? = some (.cells (rcs 0 0 .nilIface (.slice a 6 c)) 178 (0, 0)) ∧ Ow w' (fun k => w.heap.size ≤ k ∧ k ≠ b) 9 eStr (.slice a 6 c) rp6 ∧ Frm No w w' := by
  obtain ⟨av, cv, rfl⟩ := hr.sh
  go_enter Tryz.func115, Tryz.ntmps115
  go_wp2_with (at_builtin; refine wpList_ap _ rfl (.const (.slice none 0 0)) (.tmp 8) 43 43 rfl 9 _ 16 Tryz.underlying43 i_str rfl (Ow.nil w (fun k => w.heap.size ≤ k) _ eStr none) (hr.src Tryz.underlying43) rfl rfl rfl ?c1 ?c2 ?_)
  case c1 => decide
  case c2 => decide
  intro a' c' w1 o1 f1
  have s1 := f1.size
  go_wp2
  go_ret
  refine ⟨_, a', c', rfl, ?_, heap_alloc_new _ _, ?_, ?_⟩
  · omega
  · exact (o1.mono (G := fun k => w.heap.size ≤ k ∧ k ≠ w1.heap.size) fun k hk h => ⟨by rcases h with h | h <;> omega, by omega⟩).al _
  · exact (f1.mono (G := No) fun k hk h => absurd hk (by omega)).al _
end Go.Proofs.YthaegncocdddfaaGreatDoor

/- Bytes turned into a text, a text turned into bytes. -/
namespace Go.Proofs.YthaegncocdddfaaGreatDoor
set_option linter.unusedVariables false
set_option linter.unusedSimpArgs false
open Go.RowKit Go.Lib Go.Tt
set_option maxRecDepth 100000 in
/-- Bytes that are read, turned into a text. -/
theorem conv_rd {w : World} {a : Option Addr} {n c : Nat} {l : List UInt8} (h : RdS w eU8 (.slice a n c) l) (h0 : 0 < l.length) :
    (convert 58 9 (.slice a n c)).run Tryz.prog w = .ok (.string ⟨l.toArray⟩) w := by
  obtain ⟨h1, h2, h3, h4⟩ := h.facts
  subst h1
  obtain ⟨g, off, rfl, -, k⟩ := h.at (i := 0) h0
  have hc : ∀ i, i < l.length → w.cell? ⟨g, off + i, none⟩ = some (.int .u8 ((l.map fun b => (b.toNat : Int)).getD i 0)) := fun i hi => by
    obtain ⟨g', off', e, -, k'⟩ := h.at hi
    cases e
    have := k' 0 _ rfl
    rw [show i * eU8.k + 0 = i from by show i * 1 + 0 = i; omega] at this
    rw [this]
    simp [List.getD, hi]
  have := run_convert_bytes_arg (P := Tryz.prog) w 58 5 Tryz.underlying58 Tryz.underlying5 g off l.length c (l.map fun b => (b.toNat : Int)) (by simp) hc 9 Tryz.underlying9
  rw [this]
  have e : (l.map ((fun n => UInt8.ofNat n.toNat) ∘ fun b => (b.toNat : Int))) = l := by
    conv => rhs; rw [← List.map_id l]
    exact List.map_congr_left fun b _ => by simp
  simp only [strOfNums, List.map_map, e]
theorem frm_bytes (w : World) (e : TypeId) (s : ByteArray) : Frm No w (bytesWorld w e s) :=
  ⟨rfl, rfl, rfl, by rw [bytesWorld_size]; omega, fun k hk _ => bytesWorld_at_old w e s k hk⟩
/-- What a text's bytes read as. -/
theorem rd_bytes (w : World) (s : ByteArray) (hs : s.size ≤ maxLen) : RdS (bytesWorld w 5 s) eU8 (.slice (some ⟨w.heap.size, 0, none⟩) s.data.toList.length (grownCap w s.size 0 5)) s.data.toList := by
  have hl : s.data.toList.length = s.size := by rw [Array.length_toList]; rfl
  refine ⟨_, _, rfl, by rw [hl]; exact grownCap_ge _ _ _ _, grownCap_le_maxLen _ _ _ _ hs, fun h => (by cases h), fun _ => ⟨_, _, rfl, fun m u hm => ?_⟩⟩
  rw [eU8_flat] at hm
  unfold Lib.byteCells at hm
  rw [List.getElem?_map] at hm
  obtain ⟨y, hy, rfl⟩ := Option.map_eq_some_iff.1 hm
  have hlt : m < s.size := by rw [← hl]; exact (List.getElem?_eq_some_iff.1 hy).1
  rw [Nat.zero_add, bytesWorld_cell w 5 s m hlt]
  simp only [List.getD_eq_getElem?_getD, hy, Option.getD_some]
set_option maxRecDepth 100000 in
theorem wpList_bs (w : World) {ops : Array Oper} {rest : List Oper} {o : Oper} {a : Act} {Q : Exit → Act → World → Prop} (hgd : o.guard = none) (x : Operand) (ho : o.op = .convert 9 58 x)
    {s : ByteArray} (hs : s.size ≤ maxLen) (hx : a.eval x = .string s)
    (h : ∀ c w', RdS w' eU8 (.slice (some ⟨w.heap.size, 0, none⟩) s.data.toList.length c) s.data.toList → Frm No w w' → w'.heap.size = w.heap.size + 1 → wpList Tryz.prog ops Q rest (a.put o.dst (.slice (some ⟨w.heap.size, 0, none⟩) s.data.toList.length c)) w') : wpList Tryz.prog ops Q (o :: rest) a w := by
  refine wpList_plain hgd fun K hK => ?_
  have hr := Lib.run_convert_string_bytes (P := Tryz.prog) w 9 58 5 s Tryz.underlying9 Tryz.underlying58 Tryz.underlying5
  have hl : s.data.toList.length = s.size := by rw [Array.length_toList]; rfl
  have := hK _ _ (h _ _ (rd_bytes w s hs) (frm_bytes w 5 s) (bytesWorld_size w 5 s))
  rw [hl] at this
  unfold Oper.wp
  simp [execOp, ho, hx, Result.andThen]
  rw [hr]
  simp only []
  rw [Oper.upon_value]
  exact this
end Go.Proofs.YthaegncocdddfaaGreatDoor

/- package strings' Replacer, walked: build. -/
namespace Go.Proofs.YthaegncocdddfaaGreatDoor
set_option linter.unusedVariables false
set_option linter.unusedSimpArgs false
open Go.RowKit Go.Lib Go.Tt
/-- The replacer's block: the bytes of D are filled in; T: where the row of replaced bytes lies. -/
def BsC (w : World) (M rb : Nat) (T : Nat → Prop) (D : List UInt8) (v : Value) (c : UInt8) : Prop :=
  (c ∉ D → v = .slice none 0 0) ∧ (c ∈ D → ∃ g o cp, v = .slice (some ⟨g, o, none⟩) 2 cp ∧ M ≤ g ∧ g ≠ rb ∧ ¬ T g ∧ RdS w eU8 v (dqc c))
def BsP (w : World) (M rb : Nat) (D : List UInt8) : Prop :=
  ∃ (arr : Array Value) (tv : Value) (T : Nat → Prop), w.heap[rb]? = some (.cells arr 214 (0, 0)) ∧ M ≤ rb ∧ (∀ k, T k → M ≤ k ∧ k ≠ rb ∧ k < w.heap.size) ∧ (∀ c : UInt8, ∃ v, arr[c.toNat]? = some v ∧ BsC w M rb T D v c) ∧ arr[256]? = some tv ∧ Ow w T 9 eStr tv (D.map mC)
theorem BsC.frm {w w' : World} {M rb : Nat} {T : Nat → Prop} {D : List UInt8} {v : Value} {c : UInt8} {F : Nat → Prop} (h : BsC w M rb T D v c) (f : Frm F w w') (hF : ∀ k, M ≤ k → k ≠ rb → ¬ T k → ¬ F k) : BsC w' M rb T D v c := by
  refine ⟨h.1, fun hc => ?_⟩
  obtain ⟨g, o, cp, hv, hg, hne, hT, hr⟩ := h.2 hc
  exact ⟨g, o, cp, hv, hg, hne, hT, hr.frm f fun k hk => by rw [hv] at hk; obtain rfl := Option.some.inj hk; exact hF _ hg hne hT⟩
theorem BsP.frm {w w' : World} {M rb : Nat} {D : List UInt8} {F : Nat → Prop} (h : BsP w M rb D) (f : Frm F w w') (hF : ∀ k, M ≤ k → ¬ F k) : BsP w' M rb D := by
  obtain ⟨arr, tv, T, hb, hM, hT, hc, ht, ho⟩ := h
  exact ⟨arr, tv, T, f.obj hb (hF _ hM), hM, fun k hk => ⟨(hT k hk).1, (hT k hk).2.1, Nat.lt_of_lt_of_le (hT k hk).2.2 f.size⟩, fun c => let ⟨v, h1, h2⟩ := hc c; ⟨v, h1, h2.frm f fun k hk _ _ => hF k hk⟩, ht, ho.frm f fun k hk => hF k (hT k hk).1⟩
def zrw (n : Nat) (v : Value) : List Value := List.replicate n (.slice none 0 0) ++ [v]
theorem zrw_set (n : Nat) (u v : Value) : (zrw n u).set n v = zrw n v := by
  unfold zrw
  rw [List.set_append_right _ _ (by simp)]
  simp
theorem zrw_at (n : Nat) (v : Value) (c : Nat) (h : c < n) : (zrw n v)[c]? = some (.slice none 0 0) := by
  unfold zrw
  rw [List.getElem?_append_left (by simpa using h), List.getElem?_replicate, if_pos h]
theorem zrw_last (n : Nat) (v : Value) : (zrw n v)[n]? = some v := by
  unfold zrw
  rw [List.getElem?_append_right (by simp)]
  simp
theorem zrw_len (n : Nat) (v : Value) : (zrw n v).length = n + 1 := by simp [zrw]
theorem zrw_one (n : Nat) (a : Option Addr) (m c : Nat) : ∀ v ∈ zrw n (.slice a m c), v.oneCell' = true := by
  intro v hv
  unfold zrw at hv
  rcases List.mem_append.1 hv with h | h
  · rw [List.eq_of_mem_replicate h]; rfl
  · rw [List.mem_singleton.1 h]; rfl
def zrow (v : Value) : List Value := zrw 256 v
set_option maxRecDepth 100000 in
theorem z214 : Tryz.zeroCells214.toList = zrow (.slice none 0 0) := by kernel_rfl
theorem zrow_set (u v : Value) : (zrow u).set 256 v = zrow v := zrw_set 256 u v
theorem zrow_at (v : Value) (c : UInt8) : (zrow v)[c.toNat]? = some (.slice none 0 0) := zrw_at 256 v _ c.toNat_lt
theorem zrow_last (v : Value) : (zrow v)[256]? = some v := zrw_last 256 v
theorem zrow_len (v : Value) : (zrow v).length = 257 := zrw_len 256 v
theorem zrow_one (a : Option Addr) (n c : Nat) : ∀ v ∈ zrow (.slice a n c), v.oneCell' = true := zrw_one 256 a n c
theorem i_bsr : (Tryz.prog.info? 214).map (·.size) = some 257 := by kernel_rfl
theorem z214_size : Tryz.zeroCells214.size = 257 := by
  rw [← Array.length_toList, z214, zrow_len]
set_option maxHeartbeats 4000000 in
set_option maxRecDepth 100000 in
theorem build_ok {w : World} {b : Nat} {x m : Int} {r : Value} {a : Option Addr} {c : Nat} (hb : w.heap[b]? = some (.cells (rcs x m r (.slice a 6 c)) 178 (0, 0))) (hr : RdS w eStr (.slice a 6 c) rp6) :
    Calls Tryz.prog 135 #[.pointer (some ⟨b, 0, none⟩)] w fun e w' => ∃ rb, e = .returned (.iface 215 (.pointer (some ⟨rb, 0, none⟩))) ∧ BsP w' w.heap.size rb [10, 92, 34] ∧ Frm No w w' := by
  have c2 : w.cell? ⟨b, 4, none⟩ = some (.slice a 6 c) := obj_cell hb 4
  obtain ⟨q0, o0, rfl, hq0, k0⟩ := hr.at (i := 0) (by decide)
  have e0 : w.cell? ⟨q0, o0, none⟩ = some (.string ⟨#[34]⟩) := k0 0 _ rfl
  have e1 : w.cell? ⟨q0, o0 + 1, none⟩ = some (.string ⟨#[92, 34]⟩) := by
    obtain ⟨q1, o1, h1, -, k1⟩ := hr.at (i := 1) (by decide)
    cases h1
    exact k1 0 _ rfl
  have e2 : w.cell? ⟨q0, o0 + 2, none⟩ = some (.string ⟨#[92]⟩) := by
    obtain ⟨q1, o1, h1, -, k1⟩ := hr.at (i := 2) (by decide)
    cases h1
    exact k1 0 _ rfl
  have e3 : w.cell? ⟨q0, o0 + 3, none⟩ = some (.string ⟨#[92, 92]⟩) := by
    obtain ⟨q1, o1, h1, -, k1⟩ := hr.at (i := 3) (by decide)
    cases h1
    exact k1 0 _ rfl
  have e4 : w.cell? ⟨q0, o0 + 4, none⟩ = some (.string ⟨#[10]⟩) := by
    obtain ⟨q1, o1, h1, -, k1⟩ := hr.at (i := 4) (by decide)
    cases h1
    exact k1 0 _ rfl
  have e5 : w.cell? ⟨q0, o0 + 5, none⟩ = some (.string ⟨#[92, 110]⟩) := by
    obtain ⟨q1, o1, h1, -, k1⟩ := hr.at (i := 5) (by decide)
    cases h1
    exact k1 0 _ rfl
  clear k0
  have heq := fun W a n c => run_eql_slice_nil (P := Tryz.prog) W 58 5 a n c Tryz.underlying58
  go_enter Tryz.func135, Tryz.ntmps135
  go_wp2_with (fail)
  go_loopg [4, 5] 4 (fun g bv iv wr => w = wr ∧ ((g = 4 ∧ bv = .bool true ∧ iv = .int .i64 0) ∨ (g = 3 ∧ bv = .bool false ∧ iv = .int .i64 2) ∨ (g = 2 ∧ bv = .bool false ∧ iv = .int .i64 4) ∨ (g = 1 ∧ bv = .bool false ∧ iv = .int .i64 6)))
  case atStart => exact ⟨rfl, .inl ⟨rfl, rfl, rfl⟩⟩
  case round =>
    obtain ⟨rfl, h⟩ := hrel
    rcases h with ⟨rfl, rfl, rfl⟩ | ⟨rfl, rfl, rfl⟩ | ⟨rfl, rfl, rfl⟩ | ⟨rfl, rfl, rfl⟩
    · go_wp2_with (fail)
      go_roundg 3
      case measure => decide
      case rel => exact ⟨rfl, .inr (.inl ⟨rfl, rfl, rfl⟩)⟩
    · go_wp2_with (fail)
      go_roundg 2
      case measure => decide
      case rel => exact ⟨rfl, .inr (.inr (.inl ⟨rfl, rfl, rfl⟩))⟩
    · go_wp2_with (fail)
      go_roundg 1
      case measure => decide
      case rel => exact ⟨rfl, .inr (.inr (.inr ⟨rfl, rfl, rfl⟩))⟩
    · go_wp2_with (at_make; refine wpList_mk0 _ rfl _ _ 43 rfl 9 (.string ByteArray.empty) 1 16 Tryz.underlying43 i_str _ _ _ 3 rfl rfl rfl (by decide) (by decide) ?_)
      intro w1 o1 g1
      have o2 : Ow w1 (fun k => w.heap.size ≤ k) 9 eStr (.slice (some ⟨w.heap.size, 0, none⟩) 0 3) [] := .inr ⟨o1, fun g hg => by obtain rfl := Option.some.inj hg; exact Nat.le_refl _⟩
      have f1 : Frm No w w1 := (Frm.of_grown g1).mono fun k _ h => by cases h
      clear o1 g1
      go_wp2_with (refine wpList_sto _ rfl (.tmp 11) (.tmp 95) 214 rfl (vs := zrow (.slice (some ⟨w.heap.size, 0, none⟩) 0 3)) (heap_alloc_new _ _) (by rw [zrow_len]; exact i_bsr) (by rw [zrow_len]; exact z214_size) (zrow_one _ _ _) rfl ?hx ?_)
      case hx =>
        refine congrArg Value.agg ?_
        apply Array.toList_inj.1
        rw [Array.toList_setIfInBounds, z214, zrow_set]
      intro w2 B2 f2 z2
      have P0 : BsP w2 w.heap.size w1.heap.size [] := by
        refine ⟨_, _, fun k => w.heap.size ≤ k ∧ k < w1.heap.size, B2, f1.size, fun k hk => ⟨hk.1, by omega, by omega⟩, fun u => ⟨_, by rw [List.getElem?_toArray]; exact zrow_at _ u, fun _ => rfl, fun h => absurd h (by simp)⟩, by rw [List.getElem?_toArray]; exact zrow_last _, ?_⟩
        exact ((o2.mono (G := fun k => w.heap.size ≤ k ∧ k < w1.heap.size) fun k hk h => ⟨h, hk⟩).al _).frm f2 fun k hk => by omega
      have F2 : Frm No w w2 := (f1.al _).then f2 fun k hk h => by have := f1.size; omega
      clear o2 f1 B2 f2 z2
      generalize w1.heap.size = rb at P0 ⊢
      go_wp2_with (fail)
      go_loopg [12] 4 (fun g iv wq => ∃ j : Nat, j ≤ 3 ∧ g = 4 - j ∧ iv = .int .i64 (4 - 2 * (j : Int)) ∧ BsP wq w.heap.size rb (([10, 92, 34] : List UInt8).take j) ∧ Frm No w wq)
      case atStart => exact ⟨0, by decide, rfl, rfl, P0, F2⟩
      case round =>
        clear P0 F2
        obtain ⟨j, hj, hg, rfl, P1, F1⟩ := hrel
        by_cases h3 : j = 3
        · subst h3
          go_wp2_with (fail)
          go_ret
          exact ⟨rb, rfl, P1, F1⟩
        · obtain ⟨y, i, hiv, hi, k0, k1, hy, hy2, hD⟩ : ∃ (y : UInt8) (i : Nat), (4 - 2 * (j : Int)) = (i : Int) ∧ i ≤ 4 ∧ w.cell? ⟨q0, o0 + i, none⟩ = some (.string ⟨#[y]⟩) ∧ w.cell? ⟨q0, o0 + (i + 1), none⟩ = some (.string ⟨(dqc y).toArray⟩) ∧ y ∉ ([10, 92, 34] : List UInt8).take j ∧ (dqc y).length = 2 ∧ ([10, 92, 34] : List UInt8).take (j + 1) = ([10, 92, 34] : List UInt8).take j ++ [y] := by
            obtain rfl | rfl | rfl : j = 0 ∨ j = 1 ∨ j = 2 := by omega
            · exact ⟨10, 4, rfl, by decide, e4, e5, by decide, rfl, rfl⟩
            · exact ⟨92, 2, rfl, by decide, e2, e3, by decide, rfl, rfl⟩
            · exact ⟨34, 0, rfl, by decide, e0, e1, by decide, rfl, rfl⟩
          have HG := Lib.hid hg
          have HD := Lib.hid hD
          have HI := Lib.hid hiv
          rw [hiv]
          have g0 : wr.cell? ⟨q0, o0 + i, none⟩ = some (.string ⟨#[y]⟩) := (F1.cell (p := ⟨q0, o0 + i, none⟩) hq0 id).trans k0
          have g1 : wr.cell? ⟨q0, o0 + (i + 1), none⟩ = some (.string ⟨(dqc y).toArray⟩) := (F1.cell (p := ⟨q0, o0 + (i + 1), none⟩) hq0 id).trans k1
          obtain ⟨arr, tv, T, hB, hM, hTT, hC, hT, O⟩ := P1
          obtain ⟨v, hv, hvy⟩ := hC y
          obtain rfl := hvy.1 hy
          have d0 : wr.cell? ⟨rb, y.toNat, none⟩ = some (.slice none 0 0) := (obj_cell hB _).trans hv
          have d1 : wr.cell? ⟨rb, 256, none⟩ = some tv := (obj_cell hB _).trans hT
          have z0 := obj_frz hB
          have nb := lt_of_block hB
          obtain ⟨ts, hts⟩ : ∃ ts, ts = (([10, 92, 34] : List UInt8).take j).map mC := ⟨_, rfl⟩
          rw [← hts] at O
          have htl : ts.length ≤ 3 := by rw [hts, List.length_map, List.length_take]; exact Nat.min_le_right _ _
          have HT := Lib.hid hts
          clear hts
          obtain ⟨ta, tc, rfl⟩ := O.sh
          have hyt : y.toNat < 256 := y.toNat_lt
          have hT' := hT
          have hy0 : ((⟨#[y]⟩ : ByteArray)[0]'Nat.zero_lt_one) = y := rfl
          clear e0 e1 e2 e3 e4 e5 k0 k1 hg hD hiv hvy hT' hb hr c2 hq0
          have hcv : (convert 58 9 (.slice (some ⟨wr.heap.size, 0, none⟩) 1 1)).run Tryz.prog (wr.alloc (.cells #[.int .u8 y.toNat] 5)) = .ok (.string ⟨#[y]⟩) (wr.alloc (.cells #[.int .u8 y.toNat] 5)) := conv_rd (RdS.litg wr eU8 y 5 rfl) Nat.zero_lt_one
          go_wp2_with (at_builtin; refine wpList_ap _ rfl (.tmp 119) (.tmp 123) 43 43 rfl 9 _ 16 Tryz.underlying43 i_str rfl ((O.al _).al _) ((RdS.litg _ eStr (⟨#[y]⟩ : ByteArray) _ (g := wr.heap.size + 1) (by simp)).src Tryz.underlying43) rfl rfl rfl ?c1 ?c2 ?_)
          case c1 => unfold maxLen; omega
          case c2 => omega
          intro a' c' w3 o3 f3
          have B3 := f3.obj (al_old (al_old hB)) (fun h => (hTT rb h).2.1 rfl)
          have d3 : w3.cell? ⟨rb, 256, none⟩ = some (.slice ta ts.length tc) := (obj_cell B3 _).trans hT
          have z3 := obj_frz B3
          have nb3 := lt_of_block B3
          have s3 := f3.size
          have HC := Lib.hid hC
          have HY := Lib.hid hy2
          have HV := Lib.hid hv
          have HNB := Lib.hid nb
          have HT' := Lib.hid hT
          have F3 : Frm No w w3 := ((F1.al _).al _).then f3 fun k hk h => by have := (hTT k h).1; omega
          clear g0 g1 hcv hB z0 d0 d1 nb O hC hy2 hT hv
          go_wp2_with (refine wpList_bs _ rfl (.tmp 127) rfl (s := ⟨(dqc y).toArray⟩) ?b1 rfl ?_)
          case b1 => show (dqc y).length ≤ maxLen; rw [HY.out]; decide
          intro c5 w5 r5 f5 s5
          have B4 := obj_setCell (i := 256) B3 (.slice a' (ts.length + 1) c')
          have B5 := f5.obj B4 id
          have d5 : w5.cell? ⟨rb, y.toNat, none⟩ = some (.slice none 0 0) := by
            rw [obj_cell B5, Array.getElem?_setIfInBounds, if_neg (by omega)]
            exact HV.out
          have z5 := obj_frz B5
          have nb5 := lt_of_block B5
          have HS3 := Lib.hid s3
          have HS5 := Lib.hid s5
          have HF3 := Lib.hid f3
          clear B4 z3 d3 nb3 s3 s5 f3
          go_wp2_with (fail)
          go_roundg (4 - (j + 1))
          case measure => have := HG.out; omega
          case rel =>
            have s3 := HS3.out
            have s5 := HS5.out
            have hnb := HNB.out
            simp only [World.size_alloc] at s3
            have FG : Frm (fun k => T k ∨ k = rb) wr (w5.setCell ⟨rb, y.toNat, none⟩ (.slice (some ⟨w3.heap.size, 0, none⟩) (dqc y).length c5)) := (((((Frm.refl _ wr).al _).al _).trans (HF3.out.mono fun k _ h => .inl h)).sc (.inr rfl) _ _ |>.trans (f5.mono fun k _ h => h.elim)).sc (.inr rfl) _ _
            have F35 : Frm (fun k => k = rb) w3 (w5.setCell ⟨rb, y.toNat, none⟩ (.slice (some ⟨w3.heap.size, 0, none⟩) (dqc y).length c5)) := (((Frm.refl (fun k => k = rb) w3).sc rfl _ _).trans (f5.mono fun k _ h => h.elim)).sc rfl _ _
            have hys : y.toNat < arr.size := (Array.getElem?_eq_some_iff.1 HV.out).1
            have hts : 256 < arr.size := (Array.getElem?_eq_some_iff.1 HT'.out).1
            refine ⟨j + 1, by omega, rfl, ?_, ?_, ((F3.st hM _ _).trans f5).st hM _ _⟩
            · have := HI.out
              congr 1
              omega
            · refine ⟨_, .slice a' (ts.length + 1) c', fun k => T k ∨ (wr.heap.size ≤ k ∧ k < w3.heap.size ∧ k ≠ rb), obj_setCell B5 _, hM, ?_, ?_, ?_, ?_⟩
              · intro k hk
                rw [World.size_setCell]
                rcases hk with h | h
                · exact ⟨(hTT k h).1, (hTT k h).2.1, by have := (hTT k h).2.2; omega⟩
                · exact ⟨by have := F1.size; omega, h.2.2, by omega⟩
              · intro u
                by_cases hu : u = y
                · subst hu
                  refine ⟨_, by rw [Array.getElem?_setIfInBounds, if_pos rfl, if_pos (by rw [Array.size_setIfInBounds]; exact hys)], fun h => absurd (by rw [HD.out]; simp) h, fun _ => ⟨w3.heap.size, 0, c5, by rw [HY.out], by have := F1.size; omega, by omega, ?_, ?_⟩⟩
                  · rintro (h | h)
                    · have := (hTT _ h).2.2
                      omega
                    · omega
                  · exact r5.frm (Frm.setCell (F := fun k => k = rb) w5 _ _ rfl) fun g hg e => by
                      rw [HY.out] at hg
                      have : w3.heap.size = g := Option.some.inj hg
                      omega
                · obtain ⟨v, h1, h2⟩ := HC.out u
                  have hun : y.toNat ≠ u.toNat := fun e => hu (UInt8.toNat_inj.1 e.symm)
                  have hu2 : (256 : Nat) ≠ u.toNat := by have := u.toNat_lt; omega
                  refine ⟨v, by rw [Array.getElem?_setIfInBounds, if_neg hun, Array.getElem?_setIfInBounds, if_neg hu2]; exact h1, fun hn => h2.1 fun hm => hn (by rw [HD.out]; exact List.mem_append_left _ hm), fun hm => ?_⟩
                  rw [HD.out] at hm
                  rcases List.mem_append.1 hm with hm | hm
                  · obtain ⟨g, o, cp, hv, hg, hne, hnT, hr⟩ := h2.2 hm
                    have hlt : g < wr.heap.size := hr.blk_lt (by rw [hv]; rfl)
                    exact ⟨g, o, cp, hv, hg, hne, fun h => h.elim hnT fun h => by have := h.1; omega, hr.frm FG fun k hk => by
                      rw [hv] at hk
                      obtain rfl := Option.some.inj hk
                      exact fun h => h.elim hnT hne⟩
                  · exact absurd (List.mem_singleton.1 hm) hu
              · rw [Array.getElem?_setIfInBounds, if_neg (by omega), Array.getElem?_setIfInBounds, if_pos rfl, if_pos hts]
              · have hD' : (([10, 92, 34] : List UInt8).take (j + 1)).map mC = ts ++ [⟨#[y]⟩] := by rw [HD.out, List.map_append, ← HT.out]; rfl
                rw [hD']
                refine (o3.mono (G := fun k => T k ∨ (wr.heap.size ≤ k ∧ k < w3.heap.size ∧ k ≠ rb)) fun k hk h => ?_).frm F35 fun k hk e => ?_
                · rcases h with h | h
                  · exact .inl h
                  · have h1 := h.1
                    simp only [World.size_alloc] at h1
                    exact .inr ⟨by omega, hk, by omega⟩
                · rcases hk with h | h
                  · exact (hTT k h).2.1 e
                  · exact h.2.2 e
end Go.Proofs.YthaegncocdddfaaGreatDoor

/- Merged: LNew. -/
import Derived.Test.YtofikfkgiblblaaGreatDoorQ01
import Derived.Test.YtofikfkgiblblaaGreatDoorQ16
import Derived.Test.YtofikfkgiblblaaGreatDoorQ42
/- tattlelaw12.CellNew answers true, for every input. -/
namespace Go.Proofs.YtofikfkgiblblaaGreatDoor
set_option linter.unusedVariables false
set_option linter.unusedSimpArgs false
set_option linter.unusedVariables false
set_option linter.unusedSimpArgs false
open Go.RowKit Go.Lib Go.Tt Go.Shelf
theorem wpList_want {P : Program} {ops : Array Oper} {Q : Exit → Act → World → Prop} {rest : List Oper} {a : Act} {w : World} {o : Oper} (hw : Region.wanted o (yielded ops a.tmps) = true) (h : wpList P ops Q ({ o with guard := none } :: rest) a w) : wpList P ops Q (o :: rest) a w := by
  unfold wpList at h ⊢
  rw [if_pos hw]
  rw [if_pos (show Region.wanted { o with guard := none } (yielded ops a.tmps) = true from rfl)] at h
  cases o
  exact h
theorem CellR.keep {w w' : World} {F : Nat → Prop} {c : CellV} {ve vl vs : Value} (h : CellR w c ve vl vs) (f : Frm F w w') (hF : ∀ k, k < w.heap.size → ¬ F k) : CellR w' c ve vl vs := CellR.below (B := 0) h (f.below hF (Nat.le_refl _))
theorem rd_keep {α : Type} {E : Enc α} {w w' : World} {F : Nat → Prop} {v : Value} {l : List α} (h : RdS w E v l) (f : Frm F w w') (hF : ∀ k, k < w.heap.size → ¬ F k) : RdS w' E v l := h.below (f.below hF (Nat.le_refl _)) fun _ hg => h.blk_lt hg
theorem ow_put1 {w' : World} {F : Nat → Prop} {g c k : Nat} {row : Array Value} {l : List Int} {y : Int} (hR : w'.heap[g]? = some (.cells (rowPut row.toList k [.int .i64 y]).toArray 3 (0, 0))) (hF : F g) (hn : l.length ≤ c) (hc : c ≤ maxLen) (hr : row.size = c * eInt.k) (ht : row.toList.take (l.length * eInt.k) = eInt.flat l) (hk : k < l.length) :
    Ow w' F 3 eInt (.slice (some ⟨g, 0, none⟩) (l.set k y).length c) (l.set k y) := by
  have hrs : row.size = c := by rw [hr]; show c * 1 = c; omega
  have hk1 : k < row.toList.length := by rw [Array.length_toList]; omega
  refine Ow.row hR hF (by rw [List.length_set]; exact hn) hc (by simp only [List.size_toArray, rowPut_len _ _ _ (show k + [Value.int .i64 y].length ≤ row.toList.length from by show k + 1 ≤ _; omega), Array.length_toList]; exact hr) ?_
  rw [List.length_set]
  have hf := flat_set eInt (l := l) (k := k) (j := 0) (y := y) (v := .int .i64 y) hk (by show 0 < 1; omega) rfl
  rw [← hf, ← ht, rowPut_one hk1, ← List.take_set]
  show _ = List.take _ (row.toList.set (k * 1 + 0) _)
  rw [Nat.mul_one, Nat.add_zero]
def nothing (k : Nat) : List UInt8 := if k = 0 then [110, 117, 108, 108] else if k = 1 then [48] else [91, 93]
theorem itoa0 : Lib.itoa 0 = [48] := by decide +kernel
theorem valsOf_nil : valsOf [] = [] := valsOf_eq List.Pairwise.nil (fun x => by simp)
theorem readN (k : Nat) (hk : k < 4) (m : Nat) : readF (newC k m) = (nothing k, 0) := by
  rcases (show k = 0 ∨ k = 1 ∨ k = 2 ∨ k = 3 by omega) with rfl | rfl | rfl | rfl
  · rfl
  · show (numT (0, 0), (0 : Int)) = _; unfold numT; rw [if_pos rfl, itoa0]; rfl
  · show (textsL (valsOf []), (0 : Int)) = _; rw [valsOf_nil]; rfl
  · rfl
theorem mayN : ∀ k : Fin 4, ∀ q : Fin 16, cellMay (newC (k : Nat) (q + 1)) (1 + ((q : Nat) : Int)) = true := by decide +kernel
theorem mayN' : ∀ k : Fin 4, ∀ q : Fin 16, cellMay (newC (k : Nat) (q + 1)) (1 + ((q : Nat) : Int) + 1) = false := by decide +kernel
theorem newN {k q : Nat} (hk : k < 4) (hq : q < 16) : newF k (1 + (q : Int)) = (newC k (q + 1), 0) := by
  unfold newF
  rw [if_neg (by unfold kindMay; rw [decide_eq_true (by omega)]; decide), if_neg (by unfold nodesMay; rw [decide_eq_true (by omega)]; decide)]
  rw [show (1 + (q : Int)).toNat = q + 1 by omega]
theorem told_N (k m : Nat) : Told (newC k m) := ⟨fun _ => (by show 6 * 0 + 2 ≤ 140737488355328; omega), fun _ => ⟨(by show wgt (valsOf []) + 2 ≤ _; rw [valsOf_nil]; decide), (by show (valsOf []).length ≤ _; rw [valsOf_nil]; decide)⟩, fun _ => ⟨(by show wgt (valsL []) + 2 ≤ _; decide), (by show (valsL []).length ≤ _; decide)⟩⟩
theorem newN_b (k m : Nat) (hm : m ≤ 16) : CellB (newC k m) := ⟨(by show 0 * 32 ≤ _; unfold reachBytes; omega), (by show 0 * 48 ≤ _; unfold reachBytes; omega), (by show (List.replicate m (0 : Int)).length * 8 ≤ _; rw [List.length_replicate]; unfold reachBytes; omega)⟩
theorem newN_z (k m : Nat) : CellZ (newC k m) := ⟨(by show 0 ≤ _; omega), (fun x hx => by cases hx), (fun x hx => by cases hx)⟩
theorem new_N {k q : Nat} (hk : k < 4) (hq : q < 16) (w : World) : Calls Tryz.prog 13 #[.int .i64 k, .int .i64 (1 + q)] w fun e w' => ∃ a1 c1 a2 c2 a3 c3, e = .returned (.tuple #[.agg #[.int .i64 k, .bool false, .int .i64 0, .int .i64 0, .string ⟨#[]⟩, .int .i64 0, .int .i64 0, .slice a1 0 c1, .slice a2 0 c2, .slice a3 (q + 1) c3], .int .i64 0]) ∧ CellR w' (newC k (q + 1)) (.slice a1 0 c1) (.slice a2 0 c2) (.slice a3 (q + 1) c3) ∧ Frm No w w' := by
  have h := cellNew_ok k (1 + q) w
  rw [newN hk hq] at h
  refine h.mono ?_
  rintro e w' ⟨ve, vl, vs, rfl, o, f⟩
  obtain ⟨a1, c1, rfl⟩ := o.e.sh
  obtain ⟨a2, c2, rfl⟩ := o.l.sh
  obtain ⟨a3, c3, rfl⟩ := o.s.sh
  have hl : (newC k (q + 1)).seen.length = q + 1 := List.length_replicate
  rw [hl] at o ⊢
  exact ⟨a1, c1, a2, c2, a3, c3, rfl, o.rd, f⟩
theorem read_N {w : World} {k q : Nat} (hk : k < 4) (hq : q < 16) {a1 a2 a3 : Option Addr} {c1 c2 c3 : Nat} (h : CellR w (newC k (q + 1)) (.slice a1 0 c1) (.slice a2 0 c2) (.slice a3 (q + 1) c3)) (t : Tab w) :
    Calls Tryz.prog 15 #[.agg #[.int .i64 k, .bool false, .int .i64 0, .int .i64 0, .string ⟨#[]⟩, .int .i64 0, .int .i64 0, .slice a1 0 c1, .slice a2 0 c2, .slice a3 (q + 1) c3]] w fun e w' => e = .returned (.tuple #[.string ⟨(nothing k).toArray⟩, .int .i64 0]) ∧ Frm No w w' := by
  have h := read_ok h (newN_b k (q + 1) (by omega)) (told_N k (q + 1)) t
  rw [readN k hk (q + 1)] at h
  exact h
theorem may_N {w : World} {k q : Nat} (hk : k < 4) (hq : q < 16) {a1 a2 a3 : Option Addr} {c1 c2 c3 : Nat} (h : CellR w (newC k (q + 1)) (.slice a1 0 c1) (.slice a2 0 c2) (.slice a3 (q + 1) c3)) {n : Int} {B : Bool} (hB : cellMay (newC k (q + 1)) n = B) :
    Calls Tryz.prog 20 #[.agg #[.int .i64 k, .bool false, .int .i64 0, .int .i64 0, .string ⟨#[]⟩, .int .i64 0, .int .i64 0, .slice a1 0 c1, .slice a2 0 c2, .slice a3 (q + 1) c3], .int .i64 n] w fun e w' => e = .returned (.bool B) ∧ Frm No w w' := by
  have h := cellMay_ok h (newN_z k (q + 1)) n
  rw [hB] at h
  exact h
theorem stab_N {w : World} {k q : Nat} (hk : k < 4) (hq : q < 16) {a1 a2 a3 : Option Addr} {c1 c2 c3 : Nat} (h : CellR w (newC k (q + 1)) (.slice a1 0 c1) (.slice a2 0 c2) (.slice a3 (q + 1) c3)) {a : Option Addr} {n m : Nat} {l : List Int} {B : Bool} (hB : vUnder (newC k (q + 1)).seen l = B) (hl : RdS w eInt (.slice a n m) l) :
    Calls Tryz.prog 22 #[.agg #[.int .i64 k, .bool false, .int .i64 0, .int .i64 0, .string ⟨#[]⟩, .int .i64 0, .int .i64 0, .slice a1 0 c1, .slice a2 0 c2, .slice a3 (q + 1) c3], .slice a n m] w fun e w' => e = .returned (.bool B) ∧ Frm No w w' := by
  have h := cellStable_ok h hl
  rw [hB] at h
  exact h
set_option maxRecDepth 100000 in
theorem same_N {w : World} {k q : Nat} (hk : k < 4) (hq : q < 16) {a1 a2 a3 : Option Addr} {c1 c2 c3 : Nat} (h : CellR w (newC k (q + 1)) (.slice a1 0 c1) (.slice a2 0 c2) (.slice a3 (q + 1) c3)) {a : Option Addr} {m : Nat} (hl : RdS w eInt (.slice a (q + 1) m) (List.replicate (q + 1) 0)) :
    Calls Tryz.prog 17 #[.agg #[.int .i64 k, .bool false, .int .i64 0, .int .i64 0, .string ⟨#[]⟩, .int .i64 0, .int .i64 0, .slice a1 0 c1, .slice a2 0 c2, .slice a3 (q + 1) c3], .agg #[.int .i64 k, .bool false, .int .i64 0, .int .i64 0, .string ⟨#[]⟩, .int .i64 0, .int .i64 0, .slice none 0 0, .slice none 0 0, .slice a (q + 1) m]] w fun e w' => e = .returned (.bool true) ∧ Frm No w w' := by
  have h' : CellR w (newC k (q + 1)) (.slice none 0 0) (.slice none 0 0) (.slice a (q + 1) m) := ⟨RdS.nil _ _, RdS.nil _ _, hl⟩
  have hs := sameCell_ok h h'
  unfold cval newC at hs
  exact hs
theorem stabN {k q : Nat} (hq : q < 16) {l : List Int} (hl : l.length = q + 1) (h : ∀ x ∈ l, 0 ≤ x ∧ x ≤ 1023) : vUnder (newC k (q + 1)).seen l = true := by
  have h0 : (List.replicate (q + 1) (0 : Int)).length = q + 1 := List.length_replicate
  show vUnder (List.replicate (q + 1) 0) l = true
  unfold vUnder vecMay
  rw [decide_eq_true, decide_eq_true, decide_eq_true]
  · rfl
  · intro i hi
    rw [h0] at hi
    have e1 : (List.replicate (q + 1) (0 : Int)).getD i 0 = 0 := by rw [List.getD_eq_getElem?_getD, List.getElem?_replicate]; split <;> rfl
    have e2 : l.getD i 0 = l[i]'(by omega) := by rw [List.getD_eq_getElem?_getD, List.getElem?_eq_getElem (by omega)]; rfl
    rw [e1, e2]
    exact (h _ (List.getElem_mem _)).1
  · rw [h0]
    exact ⟨by omega, by omega, fun x hx => by have := h x hx; omega⟩
  · rw [h0]
    exact ⟨by omega, rfl, fun x hx => by have := List.eq_of_mem_replicate hx; omega⟩
theorem stabN' {k q : Nat} : vUnder (newC k (q + 1)).seen (List.replicate (q + 1 + 1) 0) = false := by
  show vUnder (List.replicate (q + 1) 0) (List.replicate (q + 1 + 1) 0) = false
  have h : vecMay (List.replicate (q + 1 + 1) (0 : Int)) ((List.replicate (q + 1) (0 : Int)).length) = false := decide_eq_false (by rw [List.length_replicate, List.length_replicate]; rintro ⟨-, h, -⟩; omega)
  unfold vUnder
  rw [h, Bool.and_false, Bool.false_and]
set_option maxHeartbeats 4000000 in
set_option maxRecDepth 100000 in
theorem lnew_ok {w : World} (tab : Tab w) (kind nodes : Int) {a : Option Addr} {n c : Nat} {v : List Int} (hv : RdS w eInt (.slice a n c) v) :
    Calls Tryz.prog 6 #[.int .i64 kind, .int .i64 nodes, .slice a n c] w fun e w' => e = .returned (.bool true) ∧ Frm No w w' := by
  obtain ⟨k, hk, hk4⟩ : ∃ k : Nat, (IntKind.u64.wrap kind).tmod 4 = k ∧ k < 4 := by
    have h : 0 ≤ IntKind.u64.wrap kind := by rw [IntKind.wrap_u64]; omega
    rw [Int.tmod_eq_emod_of_nonneg h]
    exact ⟨(IntKind.u64.wrap kind % 4).toNat, by omega, by omega⟩
  obtain ⟨q, hq, hq16⟩ : ∃ k : Nat, (IntKind.u64.wrap nodes).tmod 16 = k ∧ k < 16 := by
    have h : 0 ≤ IntKind.u64.wrap nodes := by rw [IntKind.wrap_u64]; omega
    rw [Int.tmod_eq_emod_of_nonneg h]
    exact ⟨(IntKind.u64.wrap nodes % 16).toNat, by omega, by omega⟩
  have TB := Lib.hid (fun W (f : Frm No w W) => tab.frm f)
  have HA := Lib.hid (awake_ok tab)
  have HV := Lib.hid (fun W (f : Frm No w W) => hv.no f)
  have hn := hv.facts
  have HN := Lib.hid hn.1
  clear tab hv hn
  go_enter Tryz.func6, Tryz.ntmps6
  go_wp2_with (fail)
  refine HA.out.mono ?_
  rintro e w0 ⟨rfl, F0⟩
  clear HA
  go_wp2_with (fail)
  refine (new_N hk4 hq16 w0).mono ?_
  rintro e w1 ⟨a1, c1, a2, c2, a3, c3, rfl, r1, f1⟩
  have F1 := (F0.trans f1).al (.cells #[.int .i64 k, .bool false, .int .i64 0, .int .i64 0, .string ⟨#[]⟩, .int .i64 0, .int .i64 0, .slice a1 0 c1, .slice a2 0 c2, .slice a3 (q + 1) c3] 30 (0, 0))
  have B1 := heap_alloc_new w1 (.cells #[.int .i64 k, .bool false, .int .i64 0, .int .i64 0, .string ⟨#[]⟩, .int .i64 0, .int .i64 0, .slice a1 0 c1, .slice a2 0 c2, .slice a3 (q + 1) c3] 30 (0, 0))
  have R1 := r1.no ((Frm.refl No w1).al (.cells #[.int .i64 k, .bool false, .int .i64 0, .int .i64 0, .string ⟨#[]⟩, .int .i64 0, .int .i64 0, .slice a1 0 c1, .slice a2 0 c2, .slice a3 (q + 1) c3] 30 (0, 0)))
  clear f1 r1 F0
  go_wp2_with (fail)
  refine (read_N hk4 hq16 R1 (TB.out _ F1)).mono ?_
  rintro e w2 ⟨rfl, f2⟩
  have F2 := F1.trans f2
  have B2 := f2.obj B1 id
  have R2 := R1.no f2
  have n2 := lt_of_block B2
  clear F1 B1 R1 f2
  go_wp2_with (at_make; refine wpList_mk1 _ rfl _ _ 28 rfl 3 (.int .i64 0) 8 Tryz.underlying28 i_int rfl _ _ _ _ (q + 1) rfl rfl (by rw [Int.add_comm]; rfl) (by rw [Int.add_comm]; rfl) (by omega) (by unfold maxLen; omega) ?_)
  intro w3 o3 g3
  have f3 := grown_no g3
  have O3 : Ow w3 (fun k => k = w2.heap.size) 3 eInt (.slice (some ⟨w2.heap.size, 0, none⟩) (q + 1) (q + 1)) (List.replicate (q + 1) 0) := by
    refine .inr ⟨by rw [List.length_replicate, flat_zeros]; exact o3, fun g hg => (Option.some.inj hg).symm⟩
  have hz : ∀ x ∈ List.replicate (q + 1) (0 : Int), 0 ≤ x ∧ x ≤ 1023 := fun x hx => by have := List.eq_of_mem_replicate hx; omega
  go_wp2_with (fail)
  go_loopg [14] (q + 1 + 1) (fun g iv wr => ∃ (i : Nat) (l : List Int), iv = .int .i64 i ∧ i ≤ q + 1 ∧ g = q + 1 - i + 1 ∧ Frm (fun k => k = w2.heap.size) w2 wr ∧ (∀ x ∈ l, 0 ≤ x ∧ x ≤ 1023) ∧ Ow wr (fun k => k = w2.heap.size) 3 eInt (.slice (some ⟨w2.heap.size, 0, none⟩) (q + 1) (q + 1)) l)
  case atStart => exact ⟨0, _, rfl, Nat.zero_le _, by omega, f3.mono fun _ _ h => h.elim, hz, O3⟩
  case round =>
    obtain ⟨i, l, rfl, hi, hg, F, hl, O⟩ := hrel
    have hG := Lib.hid hg
    clear hg
    have hll := Lib.hid O.cap.1
    by_cases h1 : i < q + 1
    · have g1 : (i : Int) < 1 + q := by omega
      by_cases h2 : i < n
      · have g2 : (i : Int) < n := by omega
        have l1 : i < v.length := by rw [← HN.out]; exact h2
        obtain ⟨b, off, rfl, hbb, hc⟩ := (rd_keep (HV.out _ F2) F (by omega)).at l1
        have e0 : wr.cell? ⟨b, off + i, none⟩ = some (.int .i64 v[i]) := by have := hc 0 _ rfl; rwa [show off + (i * eInt.k + 0) = off + i from by show off + (i * 1 + 0) = off + i; omega] at this
        clear hc
        obtain ⟨x, hx⟩ : ∃ x, Hid (x = v[i]) := ⟨_, Lib.hid rfl⟩
        rw [← hx.out] at e0
        obtain ⟨y, hy, hy1⟩ := mask_nat 1023 x _ (and_1023 x)
        have hlc : l.length ≤ q + 1 ∧ i < l.length := by have := hll.out; omega
        obtain ⟨g', row, hgg, R, hFg, -, hnc, hcm, hrs, hrt⟩ := O.cases (by omega)
        simp only [Option.some.injEq, Addr.mk.injEq, and_true] at hgg
        subst hgg
        have hrl : i + 1 ≤ row.size := by rw [hrs]; show i + 1 ≤ (q + 1) * 1; omega
        go_wp2_with (refine wpList_stoC _ rfl (.tmp 57) (.tmp 56) 3 rfl R (vs := [.int .i64 y]) rfl (by kernel_rfl) hrl (by intro u hu; simp at hu; subst hu; rfl) rfl rfl _ rfl ?_)
        intro w4 R4 f4 z4
        go_wp2_with (fail)
        have O4 := ow_put1 (F := fun k => k = w2.heap.size) R4 rfl hlc.1 hcm hrs hrt hlc.2
        rw [List.length_set, ← hll.out] at O4
        go_roundg (q + 1 - (i + 1) + 1)
        case measure => have := hG.out; omega
        case rel => exact ⟨i + 1, l.set i y, by go_num, by omega, rfl, F.trans (f4.mono fun _ _ e => e), (fun z hz => by
          rcases List.mem_or_eq_of_mem_set hz with h | h
          · exact hl z h
          · omega), O4⟩
      · have g2 : ¬ ((i : Int) < n) := by omega
        have RR := R2.keep F (by omega)
        have BB := F.obj B2 (by show ¬ w1.heap.size = w2.heap.size; omega)
        have FW : Frm No w wr := F2.then F fun k hk e => by have := F2.size; omega
        have nw := lt_of_block BB
        have HS := Lib.hid (stabN (k := k) hq16 hll.out.symm hl)
        have OO := Lib.hid O.rd
        clear R2 B2 F2 F hl O f3 O3 hz n2 o3 g3 hi hll
        obtain ⟨q0, q1, q2, q3, q4, q5, q6, q7, q8, q9⟩ := obj10 BB
        have hs : ∀ h : k < [Value.string ⟨#[110, 117, 108, 108]⟩, .string ⟨#[48]⟩, .string ⟨#[91, 93]⟩, .string ⟨#[91, 93]⟩].length, [Value.string ⟨#[110, 117, 108, 108]⟩, .string ⟨#[48]⟩, .string ⟨#[91, 93]⟩, .string ⟨#[91, 93]⟩][k]'h = .string ⟨(nothing k).toArray⟩ := by
          intro h
          rcases (show k = 0 ∨ k = 1 ∨ k = 2 ∨ k = 3 by omega) with rfl | rfl | rfl | rfl <;> rfl
        go_wp2_with (fail)
        refine wp_region_plan [([0, 1, 2, 3, 4, 5, 6, 7, 8, 9, 11, 10, 12, 13, 14, 15, 16, 17, 18, 19, 20, 21, 22, 23, 24], [22]), ([25, 26, 27, 28, 29, 30, 31, 32, 33, 34, 35, 36], [34]), ([37], [34]), ([38, 39, 40, 41, 42, 43, 44, 45], [42]), ([46], [42]), ([47, 48, 49], [])] 107 (by kernel_rfl) (by kernel_rfl) (by simp) ?_
        intro N hN
        simp only [wpSegs, List.map_cons, List.map_nil, List.getD_cons_zero, List.getD_cons_succ]
        go_wp2_with (go_at_call 18; refine (num_ok _ _).mono ?_; rintro e w' ⟨rfl, rfl⟩)
        have GX : Frm No wr (wr.alloc (.cells #[.string ⟨#[110, 117, 108, 108]⟩, .string ⟨#[48]⟩, .string ⟨#[91, 93]⟩, .string ⟨#[91, 93]⟩] 9 (0, 0))).drew := ((Frm.refl No wr).al _).trans (Frm.drew No _)
        have FX := FW.trans GX
        have RX := RR.no GX
        have BX := GX.obj BB id
        have OX := OO.out.no GX
        clear FW RR BB hs OO
        revert GX FX RX BX OX
        generalize (wr.alloc (.cells #[.string ⟨#[110, 117, 108, 108]⟩, .string ⟨#[48]⟩, .string ⟨#[91, 93]⟩, .string ⟨#[91, 93]⟩] 9 (0, 0))).drew = X
        intro GX FX RX BX OX
        clear GX
        refine (may_N hk4 hq16 RX (mayN ⟨k, hk4⟩ ⟨q, hq16⟩)).mono ?_
        rintro e W1 ⟨rfl, f1⟩
        have OW1 := OX.no f1
        clear OX
        have FW1 := FX.trans f1
        have RW1 := RX.no f1
        have BW1 := f1.obj BX id
        clear FX RX BX f1 q0 q1 q2 q3 q4 q5 q6 q7 q8 q9
        obtain ⟨q0, q1, q2, q3, q4, q5, q6, q7, q8, q9⟩ := obj10 BW1
        go_wp2_with (fail)
        refine ⟨again_cons (again_of rfl rfl ?_) again_nil, ?_⟩
        · go_simp
        go_wp2_with (fail)
        refine (may_N hk4 hq16 RW1 (mayN' ⟨k, hk4⟩ ⟨q, hq16⟩)).mono ?_
        rintro e W2 ⟨rfl, f2⟩
        have OW2 := OW1.no f2
        clear OW1
        have FW2 := FW1.trans f2
        have RW2 := RW1.no f2
        have BW2 := f2.obj BW1 id
        clear FW1 RW1 BW1 f2 q0 q1 q2 q3 q4 q5 q6 q7 q8 q9
        obtain ⟨q0, q1, q2, q3, q4, q5, q6, q7, q8, q9⟩ := obj10 BW2
        go_wp2_with (fail)
        refine (stab_N hk4 hq16 RW2 HS.out OW2).mono ?_
        rintro e W3 ⟨rfl, f3⟩
        clear OW2
        have FW3 := FW2.trans f3
        have RW3 := RW2.no f3
        have BW3 := f3.obj BW2 id
        clear FW2 RW2 BW2 f3 q0 q1 q2 q3 q4 q5 q6 q7 q8 q9
        obtain ⟨q0, q1, q2, q3, q4, q5, q6, q7, q8, q9⟩ := obj10 BW3
        go_wp2_with (fail)
        refine ⟨again_cons (again_of rfl rfl ?_) again_nil, ?_⟩
        · go_simp
        go_wp2_with (at_make; refine wpList_want rfl ?_; refine wpList_mk1 _ rfl _ _ 28 rfl 3 (.int .i64 0) 8 Tryz.underlying28 i_int rfl _ _ _ _ (q + 1 + 1) rfl rfl (by omega) (by omega) (by omega) (by unfold maxLen; omega) ?_)
        intro W4 o4 g4
        have OW4 : Ow W4 (fun k => k = W3.heap.size) 3 eInt (.slice (some ⟨W3.heap.size, 0, none⟩) (q + 1 + 1) (q + 1 + 1)) (List.replicate (q + 1 + 1) 0) := by
          refine .inr ⟨by rw [List.length_replicate, flat_zeros]; exact o4, fun g hg => (Option.some.inj hg).symm⟩
        have f4 := grown_no g4
        have FW4 := FW3.trans f4
        have RW4 := RW3.no f4
        have BW4 := f4.obj BW3 id
        clear FW3 RW3 BW3 f4 o4 g4 q0 q1 q2 q3 q4 q5 q6 q7 q8 q9
        obtain ⟨q0, q1, q2, q3, q4, q5, q6, q7, q8, q9⟩ := obj10 BW4
        go_wp2_with (fail)
        first | refine ⟨again_cons (again_of rfl rfl ?_) again_nil, ?_⟩ | refine ⟨again_of rfl rfl ?_, ?_⟩
        · go_simp
        go_wp2_with (fail)
        refine (stab_N hk4 hq16 RW4 stabN' OW4.rd).mono ?_
        rintro e W5 ⟨rfl, f5⟩
        have FW5 := FW4.trans f5
        have RW5 := RW4.no f5
        have BW5 := f5.obj BW4 id
        clear FW4 RW4 BW4 f5 OW4 q0 q1 q2 q3 q4 q5 q6 q7 q8 q9
        obtain ⟨q0, q1, q2, q3, q4, q5, q6, q7, q8, q9⟩ := obj10 BW5
        go_wp2_with (at_make; refine wpList_want rfl ?_; refine wpList_mk1 _ rfl _ _ 28 rfl 3 (.int .i64 0) 8 Tryz.underlying28 i_int rfl _ _ _ _ (q + 1) rfl rfl (by omega) (by omega) (by omega) (by unfold maxLen; omega) ?_)
        intro W6 o6 g6
        have OW6 : Ow W6 (fun k => k = W5.heap.size) 3 eInt (.slice (some ⟨W5.heap.size, 0, none⟩) (q + 1) (q + 1)) (List.replicate (q + 1) 0) := by
          refine .inr ⟨by rw [List.length_replicate, flat_zeros]; exact o6, fun g hg => (Option.some.inj hg).symm⟩
        have f6 := grown_no g6
        have FW6 := FW5.trans f6
        have RW6 := RW5.no f6
        have BW6 := f6.obj BW5 id
        clear FW5 RW5 BW5 f6 o6 g6 q0 q1 q2 q3 q4 q5 q6 q7 q8 q9
        obtain ⟨q0, q1, q2, q3, q4, q5, q6, q7, q8, q9⟩ := obj10 BW6
        go_wp2_with (fail)
        first | refine ⟨again_cons (again_of rfl rfl ?_) again_nil, ?_⟩ | refine ⟨again_of rfl rfl ?_, ?_⟩
        · go_simp
        go_wp2_with (fail)
        first | refine ⟨again_cons (again_of rfl rfl ?_) again_nil, ?_⟩ | refine ⟨again_of rfl rfl ?_, ?_⟩
        · go_simp
        go_wp2_with (fail)
        refine (same_N hk4 hq16 RW6 OW6.rd).mono ?_
        rintro e W7 ⟨rfl, f7⟩
        go_wp2_with (fail)
        go_ret
        exact ⟨rfl, FW6.trans f7⟩
    · have g1 : ¬ ((i : Int) < 1 + q) := by omega
      have RR := R2.keep F (by omega)
      have BB := F.obj B2 (by show ¬ w1.heap.size = w2.heap.size; omega)
      have FW : Frm No w wr := F2.then F fun k hk e => by have := F2.size; omega
      have nw := lt_of_block BB
      have HS := Lib.hid (stabN (k := k) hq16 hll.out.symm hl)
      have OO := Lib.hid O.rd
      clear R2 B2 F2 F hl O f3 O3 hz n2 o3 g3 hi hll
      obtain ⟨q0, q1, q2, q3, q4, q5, q6, q7, q8, q9⟩ := obj10 BB
      have hs : ∀ h : k < [Value.string ⟨#[110, 117, 108, 108]⟩, .string ⟨#[48]⟩, .string ⟨#[91, 93]⟩, .string ⟨#[91, 93]⟩].length, [Value.string ⟨#[110, 117, 108, 108]⟩, .string ⟨#[48]⟩, .string ⟨#[91, 93]⟩, .string ⟨#[91, 93]⟩][k]'h = .string ⟨(nothing k).toArray⟩ := by
        intro h
        rcases (show k = 0 ∨ k = 1 ∨ k = 2 ∨ k = 3 by omega) with rfl | rfl | rfl | rfl <;> rfl
      go_wp2_with (fail)
      refine wp_region_plan [([0, 1, 2, 3, 4, 5, 6, 7, 8, 9, 11, 10, 12, 13, 14, 15, 16, 17, 18, 19, 20, 21, 22, 23, 24], [22]), ([25, 26, 27, 28, 29, 30, 31, 32, 33, 34, 35, 36], [34]), ([37], [34]), ([38, 39, 40, 41, 42, 43, 44, 45], [42]), ([46], [42]), ([47, 48, 49], [])] 107 (by kernel_rfl) (by kernel_rfl) (by simp) ?_
      intro N hN
      simp only [wpSegs, List.map_cons, List.map_nil, List.getD_cons_zero, List.getD_cons_succ]
      go_wp2_with (go_at_call 18; refine (num_ok _ _).mono ?_; rintro e w' ⟨rfl, rfl⟩)
      have GX : Frm No wr (wr.alloc (.cells #[.string ⟨#[110, 117, 108, 108]⟩, .string ⟨#[48]⟩, .string ⟨#[91, 93]⟩, .string ⟨#[91, 93]⟩] 9 (0, 0))).drew := ((Frm.refl No wr).al _).trans (Frm.drew No _)
      have FX := FW.trans GX
      have RX := RR.no GX
      have BX := GX.obj BB id
      have OX := OO.out.no GX
      clear FW RR BB hs OO
      revert GX FX RX BX OX
      generalize (wr.alloc (.cells #[.string ⟨#[110, 117, 108, 108]⟩, .string ⟨#[48]⟩, .string ⟨#[91, 93]⟩, .string ⟨#[91, 93]⟩] 9 (0, 0))).drew = X
      intro GX FX RX BX OX
      clear GX
      refine (may_N hk4 hq16 RX (mayN ⟨k, hk4⟩ ⟨q, hq16⟩)).mono ?_
      rintro e W1 ⟨rfl, f1⟩
      have OW1 := OX.no f1
      clear OX
      have FW1 := FX.trans f1
      have RW1 := RX.no f1
      have BW1 := f1.obj BX id
      clear FX RX BX f1 q0 q1 q2 q3 q4 q5 q6 q7 q8 q9
      obtain ⟨q0, q1, q2, q3, q4, q5, q6, q7, q8, q9⟩ := obj10 BW1
      go_wp2_with (fail)
      refine ⟨again_cons (again_of rfl rfl ?_) again_nil, ?_⟩
      · go_simp
      go_wp2_with (fail)
      refine (may_N hk4 hq16 RW1 (mayN' ⟨k, hk4⟩ ⟨q, hq16⟩)).mono ?_
      rintro e W2 ⟨rfl, f2⟩
      have OW2 := OW1.no f2
      clear OW1
      have FW2 := FW1.trans f2
      have RW2 := RW1.no f2
      have BW2 := f2.obj BW1 id
      clear FW1 RW1 BW1 f2 q0 q1 q2 q3 q4 q5 q6 q7 q8 q9
      obtain ⟨q0, q1, q2, q3, q4, q5, q6, q7, q8, q9⟩ := obj10 BW2
      go_wp2_with (fail)
      refine (stab_N hk4 hq16 RW2 HS.out OW2).mono ?_
      rintro e W3 ⟨rfl, f3⟩
      clear OW2
      have FW3 := FW2.trans f3
      have RW3 := RW2.no f3
      have BW3 := f3.obj BW2 id
      clear FW2 RW2 BW2 f3 q0 q1 q2 q3 q4 q5 q6 q7 q8 q9
      obtain ⟨q0, q1, q2, q3, q4, q5, q6, q7, q8, q9⟩ := obj10 BW3
      go_wp2_with (fail)
      refine ⟨again_cons (again_of rfl rfl ?_) again_nil, ?_⟩
      · go_simp
      go_wp2_with (at_make; refine wpList_want rfl ?_; refine wpList_mk1 _ rfl _ _ 28 rfl 3 (.int .i64 0) 8 Tryz.underlying28 i_int rfl _ _ _ _ (q + 1 + 1) rfl rfl (by omega) (by omega) (by omega) (by unfold maxLen; omega) ?_)
      intro W4 o4 g4
      have OW4 : Ow W4 (fun k => k = W3.heap.size) 3 eInt (.slice (some ⟨W3.heap.size, 0, none⟩) (q + 1 + 1) (q + 1 + 1)) (List.replicate (q + 1 + 1) 0) := by
        refine .inr ⟨by rw [List.length_replicate, flat_zeros]; exact o4, fun g hg => (Option.some.inj hg).symm⟩
      have f4 := grown_no g4
      have FW4 := FW3.trans f4
      have RW4 := RW3.no f4
      have BW4 := f4.obj BW3 id
      clear FW3 RW3 BW3 f4 o4 g4 q0 q1 q2 q3 q4 q5 q6 q7 q8 q9
      obtain ⟨q0, q1, q2, q3, q4, q5, q6, q7, q8, q9⟩ := obj10 BW4
      go_wp2_with (fail)
      first | refine ⟨again_cons (again_of rfl rfl ?_) again_nil, ?_⟩ | refine ⟨again_of rfl rfl ?_, ?_⟩
      · go_simp
      go_wp2_with (fail)
      refine (stab_N hk4 hq16 RW4 stabN' OW4.rd).mono ?_
      rintro e W5 ⟨rfl, f5⟩
      have FW5 := FW4.trans f5
      have RW5 := RW4.no f5
      have BW5 := f5.obj BW4 id
      clear FW4 RW4 BW4 f5 OW4 q0 q1 q2 q3 q4 q5 q6 q7 q8 q9
      obtain ⟨q0, q1, q2, q3, q4, q5, q6, q7, q8, q9⟩ := obj10 BW5
      go_wp2_with (at_make; refine wpList_want rfl ?_; refine wpList_mk1 _ rfl _ _ 28 rfl 3 (.int .i64 0) 8 Tryz.underlying28 i_int rfl _ _ _ _ (q + 1) rfl rfl (by omega) (by omega) (by omega) (by unfold maxLen; omega) ?_)
      intro W6 o6 g6
      have OW6 : Ow W6 (fun k => k = W5.heap.size) 3 eInt (.slice (some ⟨W5.heap.size, 0, none⟩) (q + 1) (q + 1)) (List.replicate (q + 1) 0) := by
        refine .inr ⟨by rw [List.length_replicate, flat_zeros]; exact o6, fun g hg => (Option.some.inj hg).symm⟩
      have f6 := grown_no g6
      have FW6 := FW5.trans f6
      have RW6 := RW5.no f6
      have BW6 := f6.obj BW5 id
      clear FW5 RW5 BW5 f6 o6 g6 q0 q1 q2 q3 q4 q5 q6 q7 q8 q9
      obtain ⟨q0, q1, q2, q3, q4, q5, q6, q7, q8, q9⟩ := obj10 BW6
      go_wp2_with (fail)
      first | refine ⟨again_cons (again_of rfl rfl ?_) again_nil, ?_⟩ | refine ⟨again_of rfl rfl ?_, ?_⟩
      · go_simp
      go_wp2_with (fail)
      first | refine ⟨again_cons (again_of rfl rfl ?_) again_nil, ?_⟩ | refine ⟨again_of rfl rfl ?_, ?_⟩
      · go_simp
      go_wp2_with (fail)
      refine (same_N hk4 hq16 RW6 OW6.rd).mono ?_
      rintro e W7 ⟨rfl, f7⟩
      go_wp2_with (fail)
      go_ret
      exact ⟨rfl, FW6.trans f7⟩
end Go.Proofs.YtofikfkgiblblaaGreatDoor

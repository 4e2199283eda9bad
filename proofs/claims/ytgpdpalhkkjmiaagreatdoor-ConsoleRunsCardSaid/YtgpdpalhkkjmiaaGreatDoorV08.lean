/- Merged: Ins Spoil Spoil2 SameCell. -/
import Derived.Test.YtgpdpalhkkjmiaaGreatDoorV03
import Derived.Test.YtgpdpalhkkjmiaaGreatDoorV06
import Derived.Test.YtgpdpalhkkjmiaaGreatDoorV07
/- Sets: slices.Insert at entries. -/
namespace Go.Proofs.YtgpdpalhkkjmiaaGreatDoor
set_option linter.unusedVariables false
set_option linter.unusedSimpArgs false
set_option linter.unusedVariables false
set_option linter.unusedSimpArgs false
open Go.RowKit Go.Lib Go.Tt
theorem RdS.cellAt {α : Type} {w : World} {E : Enc α} {b n c : Nat} {l : List α} (h : RdS w E (.slice (some ⟨b, 0, none⟩) n c) l) (hn : 0 < n) (m : Nat) (u : Value) (hu : (E.flat l)[m]? = some u) : w.cell? ⟨b, m, none⟩ = some u := by
  obtain ⟨a', c', h1, -, -, -, h5⟩ := h
  simp only [Value.slice.injEq] at h1
  obtain ⟨rfl, rfl, rfl⟩ := h1
  obtain ⟨b', off, e, hc⟩ := h5 hn
  simp only [Option.some.injEq, Addr.mk.injEq, and_true] at e
  obtain ⟨rfl, rfl⟩ := e
  have := hc m u hu
  rwa [Nat.zero_add] at this
set_option maxHeartbeats 1000000 in
set_option maxRecDepth 100000 in
theorem insEnd_ok {w : World} {F : Nat → Prop} {a : Option Addr} {n c : Nat} {l : List En} (h : Ow w F 98 eEn (.slice a n c) l) {g : Nat} {x : En} (hg : w.heap[g]? = some (.cells (eEn.f x).toArray 98 (0, 0))) (hc63 : c ≤ 9223372036854775807) (hb : (n + 1) * 32 ≤ 140737488355328) :
    Calls Tryz.prog 103 #[.slice a n c, .int .i64 n, .slice (some ⟨g, 0, none⟩) 1 1] w fun e w' => ∃ a' c', e = .returned (.slice a' (n + 1) c') ∧ Ow w' (Nw F w w') 98 eEn (.slice a' (n + 1) c') (l ++ [x]) ∧ Frm F w w' := by
  obtain ⟨hn, hc⟩ := h.cap
  have HN := Lib.hid hn
  have hs : RdS w eEn (.slice (some ⟨g, 0, none⟩) 1 1) [x] := ⟨_, 1, rfl, Nat.le_refl _, by decide, (by intro h; cases h), fun _ => ⟨g, 0, rfl, fun m u hu => by
    rw [eEn.flat_one] at hu
    rw [Nat.zero_add, obj_cell hg]
    simpa using hu⟩⟩
  clear hn
  go_enter Tryz.func103, Tryz.ntmps103
  have hC1 : l.length + 1 ≤ maxLen := by rw [← HN.out]; unfold maxLen; omega
  have hC2 : (l.length + 1) * 32 ≤ 140737488355328 := by rw [← HN.out]; omega
  rcases a with _ | ⟨ab, ao, asp⟩
  · obtain ⟨-, -, -, hnil⟩ := h.rd.facts
    obtain ⟨rfl, rfl⟩ := hnil rfl
    go_wp2_with (at_builtin; refine wpList_ap _ rfl (.tmp 23) (.tmp 24) 72 72 rfl 98 _ 32 Tryz.underlying72 i_en rfl h (hs.src Tryz.underlying72) rfl rfl rfl hC1 hC2 ?_; intro a1 c1 w1 o1 f1; rw [← HN.out] at o1 ⊢)
    go_ret
    exact ⟨a1, c1, rfl, o1, f1⟩
  · go_wp2_with (at_builtin; refine wpList_ap _ rfl (.tmp 23) (.tmp 24) 72 72 rfl 98 _ 32 Tryz.underlying72 i_en rfl h (hs.src Tryz.underlying72) rfl rfl rfl hC1 hC2 ?_; intro a1 c1 w1 o1 f1; rw [← HN.out] at o1 ⊢)
    all_goals go_ret
    all_goals exact ⟨a1, c1, rfl, o1, f1⟩
set_option maxHeartbeats 1000000 in
set_option maxRecDepth 100000 in
theorem insGrow_ok {w : World} {b n i : Nat} {l : List En} (h : RdS w eEn (.slice (some ⟨b, 0, none⟩) n n) l) {g : Nat} {x : En} (hg : w.heap[g]? = some (.cells (eEn.f x).toArray 98 (0, 0))) (hi : i < n) (hb : (n + 1) * 32 ≤ 140737488355328) :
    Calls Tryz.prog 103 #[.slice (some ⟨b, 0, none⟩) n n, .int .i64 i, .slice (some ⟨g, 0, none⟩) 1 1] w fun e w' => ∃ a' c', e = .returned (.slice a' (n + 1) c') ∧ Ow w' (Nw No w w') 98 eEn (.slice a' (n + 1) c') (l.take i ++ x :: l.drop i) ∧ Frm No w w' := by
  obtain ⟨hn, -⟩ := h.facts
  have HN := Lib.hid hn
  clear hn
  have hz2 : ¬ ((i : Int) = (n : Int)) := by omega
  have hz3 : (n : Int) < (n : Int) + 1 := by omega
  have hin : i ≤ n := by omega
  have hkk : (n : Int) + 1 - (i : Int) = ((n + 1 - i : Nat) : Int) := by omega
  have hwi : IntKind.i64.wrap ((n : Int) + 1) = (n : Int) + 1 := by rw [IntKind.wrap_i64]; omega
  have hni : ¬ (n = i) := by omega
  have hb3 : (i : Int) ≤ (n : Int) := by omega
  have hl1 : (l.take i).length = i := by rw [List.length_take]; have := HN.out; omega
  have HT := Lib.hid (RdS_pre (l := l.take i) (l2 := l.drop i) (by rw [List.take_append_drop]; exact h) hl1.symm)
  have hbw : b < w.heap.size := h.blk_lt (by show sblk (.slice (some ⟨b, 0, none⟩) n n) = some b; obtain ⟨m, rfl⟩ : ∃ m, n = m + 1 := ⟨n - 1, by omega⟩; rfl)
  have hgw := lt_of_block hg
  have HH := Lib.hid h
  clear h hl1
  go_enter Tryz.func103, Tryz.ntmps103
  go_wp2_with (at_builtin; refine wpList_apz _ rfl (.tmp 34) (.tmp 39) 72 3 98 rfl Tryz.underlying72 Tryz.underlying3 _ 32 i_en rfl HT.out .i64 (n + 1 - i) (by omega) (by omega) (by omega) (by unfold maxLen; omega) rfl rfl ?_)
  obtain ⟨C, N0, hN0⟩ : ∃ (C N0 : Nat), Hid (N0 = w.heap.size ∧ C = 0) := ⟨_, _, Lib.hid ⟨rfl, rfl⟩⟩
  intro c1 w1 row B1 hr1 hge hc1 htk f1 z1
  have hsz : i + (n + 1 - i) = n + 1 := by omega
  rw [hsz] at hge ⊢
  clear hsz
  have hRow : row.size = c1 * 3 := hr1
  have HRW := Lib.hid hr1
  have HTK := Lib.hid htk
  clear hr1 htk hkk
  have hg1 := f1.obj hg id
  have hb1 := (HH.out.no f1)
  unfold maxLen at hc1
  have hGi : ¬ (c1 = i) := by omega
  have hGim : ¬ (c1 = i + 1) := by omega
  go_wp2_with (refine wpList_copyk _ rfl (.tmp 43) (.tmp 44) 72 72 98 rfl (eEn.f x) 3 Tryz.underlying72 (by kernel_rfl) B1 ?d1 ?d2 ?d3 (eEn.one x) rfl rfl ?_)
  case d1 => rw [eEn.len, show Nat.min 1 (n + 1 - i) = 1 from Nat.min_eq_left (by omega)]; rfl
  case d2 => intro j v hj; rw [Addr.add_lit, Nat.zero_add, obj_cell hg1]; simpa using hj
  case d3 => rw [eEn.len]; show i * 3 + 3 ≤ row.size; omega
  intro w2 B2 f2 z2
  have hw1 : IntKind.i64.wrap ((i : Int) + 1) = (i : Int) + 1 := by rw [IntKind.wrap_i64]; omega
  have hr2 := hb1.frm f2 fun k hk e => by
    have : sblk (.slice (some ⟨b, 0, none⟩) n n) = some b := by obtain ⟨m, rfl⟩ : ∃ m, n = m + 1 := ⟨n - 1, by omega⟩; rfl
    rw [this] at hk
    obtain rfl := Option.some.inj hk
    omega
  have HR2 := Lib.hid hr2
  clear hr2 hb1
  go_wp2
  refine wp_region_plan [([0, 1, 2, 5, 6, 7, 3, 4, 8], [])] 95 (by kernel_rfl) (by kernel_rfl) (by simp) ?_
  intro N hN
  simp only [wpSegs, List.map_cons, List.map_nil, List.getD_cons_zero, List.getD_cons_succ]
  go_wp2_with (refine wpList_copyk _ rfl (.tmp 50) (.tmp 53) 72 72 98 rfl (eEn.flat (l.drop i)) 3 Tryz.underlying72 (by kernel_rfl) B2 ?d1 ?d2 ?d3 (eEn.flat_one' _) rfl rfl ?_)
  case d1 => rw [eEn.flat_len, List.length_drop, ← HN.out, show Nat.min (n - i) (n - i) = n - i from Nat.min_self _]; rfl
  case d2 =>
    intro j v hj
    rw [Addr.add_lit]
    exact RdS.cellAt HR2.out (by omega) _ _ (eEn.flat_drop l i (by have := HN.out; omega) j v hj)
  case d3 => rw [eEn.flat_len, List.length_drop, ← HN.out, List.size_toArray, rowPut_len _ _ _ (by rw [eEn.len, Array.length_toList]; show i * 3 + 3 ≤ row.size; omega), Array.length_toList]; show (i + 1) * 3 + (n - i) * 3 ≤ row.size; omega
  intro w3 B3 f3 z3
  go_wp2
  go_ret
  have hn := HN.out
  have hlen : (l.take i ++ x :: l.drop i).length = n + 1 := by rw [List.length_append, List.length_cons, List.length_take, List.length_drop]; omega
  have hfit : (l.length + 1) * 3 ≤ row.toList.length := by rw [show row.toList.length = row.size from Array.length_toList]; omega
  have hfin := (row_ins (E := eEn) (x := x) (by omega) HTK.out hfit).2
  have o3 : Ow w3 (fun k => k = w.heap.size) 98 eEn (.slice (some ⟨w.heap.size, 0, none⟩) (l.take i ++ x :: l.drop i).length c1) (l.take i ++ x :: l.drop i) :=
    Ow.row B3 rfl (by omega) (by unfold maxLen; omega) (by
      have h1 : i * 3 + (eEn.f x).length ≤ row.toList.length := by rw [eEn.len, Array.length_toList]; show i * 3 + 3 ≤ row.size; omega
      rw [List.size_toArray, rowPut_len _ _ _ (by rw [eEn.flat_len, List.length_drop, rowPut_len _ _ _ h1, Array.length_toList]; show (i + 1) * 3 + (l.length - i) * 3 ≤ row.size; omega), rowPut_len _ _ _ h1, Array.length_toList]; exact HRW.out) (by rw [hlen, hn]; exact hfin)
  rw [hlen] at o3
  have z3' : w3.heap.size = w.heap.size + 1 := by have e : w2.drew.heap.size = w2.heap.size := rfl; omega
  refine ⟨_, c1, rfl, o3.mono fun k _ e => .inr ⟨by omega, by omega⟩, ?_⟩
  exact (f1.then f2 fun k hk e => by omega).then ((Frm.drew (fun k => k = w.heap.size) w2).trans f3) fun k hk e => by omega
set_option maxHeartbeats 1000000 in
set_option maxRecDepth 100000 in
theorem insRoom_ok {w : World} {F : Nat → Prop} {b n c i : Nat} {l : List En} (h : Ow w F 98 eEn (.slice (some ⟨b, 0, none⟩) n c) l) {g : Nat} {x : En} (hg : w.heap[g]? = some (.cells (eEn.f x).toArray 98 (0, 0))) (hF : ¬ F g) (hi : i < n) (hc : n + 1 ≤ c) :
    Calls Tryz.prog 103 #[.slice (some ⟨b, 0, none⟩) n c, .int .i64 i, .slice (some ⟨g, 0, none⟩) 1 1] w fun e w' => e = .returned (.slice (some ⟨b, 0, none⟩) (n + 1) c) ∧ Ow w' F 98 eEn (.slice (some ⟨b, 0, none⟩) (n + 1) c) (l.take i ++ x :: l.drop i) ∧ Frm F w w' := by
  obtain ⟨b', row, e, B0, hFb, hn, -, hcm, hrs, htk⟩ := h.cases (by omega)
  simp only [Option.some.injEq, Addr.mk.injEq, and_true] at e
  subst e
  have HN := Lib.hid hn
  have HTK := Lib.hid htk
  have hRow : row.size = c * 3 := hrs
  have HO := Lib.hid h
  have hgb : g ≠ b := fun e => hF (e ▸ hFb)
  unfold maxLen at hcm
  clear hn htk hrs h
  have hz2 : ¬ ((i : Int) = (n : Int)) := by omega
  have hz3 : ¬ ((c : Int) < (n : Int) + 1) := by omega
  have hin : i ≤ n := by omega
  have hwi : IntKind.i64.wrap ((n : Int) + 1) = (n : Int) + 1 := by rw [IntKind.wrap_i64]; omega
  have hw1 : IntKind.i64.wrap ((i : Int) + 1) = (i : Int) + 1 := by rw [IntKind.wrap_i64]; omega
  have hci : ¬ (c = i) := by omega
  have hci1 : ¬ (c = i + 1) := by omega
  have hov : ∀ lb cb, (callFunc 140 #[.slice (some ⟨g, 0, none⟩) 1 1, .slice (some ⟨b, (i + 1) * 3, none⟩) lb cb]).run Tryz.prog w = .ok (.value (.bool false)) w := fun lb cb => by
    rw [run_callFunc_extern Tryz.func140 (by kernel_rfl) (by kernel_rfl) (by kernel_rfl) (e := Extern.SlicesOverlaps.overlaps #[72, 72] #[4]) (by kernel_rfl),
      Lib.run_overlaps_apart w 72 4 98 Tryz.underlying72 3 Tryz.sizeOf98 ⟨g, 0, none⟩ ⟨b, (i + 1) * 3, none⟩ 1 1 lb cb hgb 98 98 3 row.size (by simp [World.shape?, hg, eEn]) (by simp [World.shape?, B0]) (by omega) (by simp [World.frozen?, hg]) (by simp [World.frozen?, hg])]
    rfl
  go_enter Tryz.func103, Tryz.ntmps103
  go_wp2_with (simp only [hov])
  refine wp_region_plan [([0, 1, 2, 5, 6, 7, 3, 4, 8], [])] 95 (by kernel_rfl) (by kernel_rfl) (by simp) ?_
  intro N hN
  simp only [wpSegs, List.map_cons, List.map_nil, List.getD_cons_zero, List.getD_cons_succ]
  go_wp2_with (refine wpList_copyk _ rfl (.tmp 73) (.tmp 76) 72 72 98 rfl (eEn.flat (l.drop i)) 3 Tryz.underlying72 (by kernel_rfl) B0 ?d1 ?d2 ?d3 (eEn.flat_one' _) rfl rfl ?_)
  case d1 => rw [eEn.flat_len, List.length_drop, ← HN.out]; show (n - i) * 3 = Nat.min _ _ * 3; congr 1; simp only [Nat.min_def]; split <;> omega
  case d2 =>
    intro j v hj
    rw [Addr.add_lit]
    exact RdS.cellAt HO.out.rd (by omega) _ _ (eEn.flat_drop l i (by have := HN.out; omega) j v hj)
  case d3 => rw [eEn.flat_len, List.length_drop, ← HN.out]; show (i + 1) * 3 + (n - i) * 3 ≤ row.size; omega
  intro w2 B2 f2 z2
  have hg2 := f2.obj (show w.drew.heap[g]? = some (.cells (eEn.f x).toArray 98 (0, 0)) from hg) hgb
  have hs1 : (i + 1) * 3 + (eEn.flat (l.drop i)).length ≤ row.toList.length := by rw [eEn.flat_len, List.length_drop, ← HN.out, show row.toList.length = row.size from Array.length_toList]; show (i + 1) * 3 + (n - i) * 3 ≤ row.size; omega
  have hs2 : i * 3 + (eEn.f x).length ≤ (rowPut row.toList ((i + 1) * 3) (eEn.flat (l.drop i))).length := by rw [rowPut_len _ _ _ hs1, eEn.len, show row.toList.length = row.size from Array.length_toList]; show i * 3 + 3 ≤ row.size; omega
  have HS1 := Lib.hid hs1
  have HS2 := Lib.hid hs2
  clear hs1 hs2
  go_wp2_with (refine wpList_copyk _ rfl (.tmp 80) (.tmp 81) 72 72 98 rfl (eEn.f x) 3 Tryz.underlying72 (by kernel_rfl) B2 ?d1 ?d2 ?d3 (eEn.one x) rfl rfl ?_)
  case d1 => rw [eEn.len, show Nat.min 1 (n + 1 - i) = 1 from Nat.min_eq_left (by omega)]; rfl
  case d2 => intro j v hj; rw [Addr.add_lit, Nat.zero_add, obj_cell hg2]; simpa using hj
  case d3 => rw [List.size_toArray]; exact HS2.out
  intro w3 B3 f3 z3
  go_wp2
  go_ret
  have hn := HN.out
  have hlen : (l.take i ++ x :: l.drop i).length = n + 1 := by rw [List.length_append, List.length_cons, List.length_take, List.length_drop]; omega
  have hfit : (l.length + 1) * 3 ≤ row.toList.length := by rw [show row.toList.length = row.size from Array.length_toList]; omega
  have htki : row.toList.take (i * eEn.k) = eEn.flat (l.take i) := by
    rw [← eEn.flat_take, ← HTK.out, List.take_take, Nat.min_eq_left (Nat.mul_le_mul_right _ (by omega))]
  have hfin := (row_ins (E := eEn) (x := x) (by omega) htki hfit).1
  have o3 : Ow w3 F 98 eEn (.slice (some ⟨b, 0, none⟩) (l.take i ++ x :: l.drop i).length c) (l.take i ++ x :: l.drop i) :=
    Ow.row B3 hFb (by omega) (by unfold maxLen; omega) (by rw [List.size_toArray, rowPut_len _ _ _ HS2.out, rowPut_len _ _ _ HS1.out, show row.toList.length = row.size from Array.length_toList]; exact hRow) (by rw [hlen, hn]; exact hfin)
  rw [hlen] at o3
  exact ⟨rfl, o3, ((Frm.drew F w).trans (f2.mono fun k hk e => e ▸ hFb)).trans (f3.mono fun k hk e => e ▸ hFb)⟩
theorem insert_ok {w : World} {F : Nat → Prop} {a : Option Addr} {n c i : Nat} {l : List En} (h : Ow w F 98 eEn (.slice a n c) l) {g : Nat} {x : En} (hg : w.heap[g]? = some (.cells (eEn.f x).toArray 98 (0, 0))) (hF : ¬ F g) (hi : i ≤ n) (hb : (n + 1) * 32 ≤ 140737488355328) :
    Calls Tryz.prog 103 #[.slice a n c, .int .i64 i, .slice (some ⟨g, 0, none⟩) 1 1] w fun e w' => ∃ a' c', e = .returned (.slice a' (n + 1) c') ∧ Ow w' (Nw F w w') 98 eEn (.slice a' (n + 1) c') (l.take i ++ x :: l.drop i) ∧ Frm F w w' := by
  obtain ⟨hn, hnc, hcm, -⟩ := h.rd.facts
  unfold maxLen at hcm
  rcases Nat.lt_or_ge i n with hlt | hge
  · obtain ⟨b, row, rfl, -⟩ := h.cases (by omega)
    rcases Nat.lt_or_ge n c with hc | hc
    · refine (insRoom_ok h hg hF hlt hc).mono ?_
      rintro e w' ⟨rfl, o, f⟩
      exact ⟨_, c, rfl, o.mono fun k _ h => .inl h, f⟩
    · obtain rfl : c = n := by omega
      refine (insGrow_ok h.rd hg hlt hb).mono ?_
      rintro e w' ⟨a', c', rfl, o, f⟩
      exact ⟨a', c', rfl, o.mono fun k _ h => h.elim (fun h => h.elim) .inr, f.mono fun k _ h => h.elim⟩
  · obtain rfl : i = n := by omega
    rw [List.take_of_length_le (by omega), List.drop_of_length_le (by omega)]
    exact insEnd_ok h hg (by omega) hb
end Go.Proofs.YtgpdpalhkkjmiaaGreatDoor

/- What is one's own, written over: nothing else turns. -/
namespace Go.Tt
set_option linter.unusedVariables false
set_option linter.unusedSimpArgs false
open Go.RowKit Go.Lib
/-- A cell of an owned row, stored. -/
theorem own_set {w : World} {B e k n g c : Nat} {xs : List Value} (h : w.ownsRow B e k (.slice (some ⟨g, 0, none⟩) n c) n xs) (m : Nat) (u : Value) : (w.setCell ⟨g, m, none⟩ u).ownsRow B e k (.slice (some ⟨g, 0, none⟩) n c) n (xs.set m u) := by
  obtain ⟨h1, h2⟩ := h
  refine ⟨by simpa using h1, ?_⟩
  rcases h2 with ⟨h2, _⟩ | ⟨g', cap, cur, h2, hB, hg, hn, hc, hs, ht⟩
  · simp at h2
  · simp at h2
    obtain ⟨rfl, rfl⟩ := h2
    refine .inr ⟨g, c, cur.setIfInBounds m u, rfl, hB, obj_setCell hg u, hn, hc, by simpa using hs, ?_⟩
    rw [← ht]
    simp [List.take_set]
theorem flat_set {α : Type} (E : Enc α) {l : List α} {i j : Nat} (hi : i < l.length) (hj : j < E.k) (u : Value) (x : α) (hx : (E.f l[i]).set j u = E.f x) : (E.flat l).set (i * E.k + j) u = E.flat (l.set i x) := by
  induction l generalizing i with
  | nil => simp at hi
  | cons y l ih =>
    cases i with
    | zero =>
      rw [Nat.zero_mul, Nat.zero_add, List.set_cons_zero, E.flat_cons, E.flat_cons, List.set_append_left _ _ (by rw [E.len]; exact hj)]
      rw [← hx]; rfl
    | succ i =>
      have e : (i + 1) * E.k + j = (E.f y).length + (i * E.k + j) := by rw [E.len, Nat.add_mul, Nat.one_mul]; omega
      rw [List.set_cons_succ, E.flat_cons, E.flat_cons, e, List.set_append_right _ _ (Nat.le_add_right _ _), Nat.add_sub_cancel_left]
      rw [ih (by simpa using hi) hx]
/-- An element of the call's own, one cell of it stored. -/
theorem Ow.set {α : Type} {w : World} {F : Nat → Prop} {e : TypeId} {E : Enc α} {b off n c : Nat} {l : List α} (h : Ow w F e E (.slice (some ⟨b, off, none⟩) n c) l) {i j : Nat} (hi : i < l.length) (hj : j < E.k) (u : Value) (x : α) (hx : (E.f l[i]).set j u = E.f x) :
    off = 0 ∧ F b ∧ Ow (w.setCell ⟨b, off + (i * E.k + j), none⟩ u) F e E (.slice (some ⟨b, off, none⟩) n c) (l.set i x) := by
  rcases h with ⟨a, h1, rfl⟩ | ⟨h, hF⟩
  · simp at hi
  · obtain ⟨a', c', h1⟩ := own_sh h
    simp at h1
    obtain ⟨ha, rfl, rfl⟩ := h1
    rcases own_cases h with ⟨h0, _⟩ | ⟨g, hg, _, _⟩
    · simp at h0
    · simp at hg
      obtain ⟨rfl, rfl⟩ := hg
      refine ⟨rfl, hF b rfl, .inr ⟨?_, hF⟩⟩
      rw [Nat.zero_add]
      have := own_set h (i * E.k + j) u
      rw [List.length_set]
      have e : (E.flat l).set (i * E.k + j) u = E.flat (l.set i x) := by
        exact flat_set E hi hj u x hx
      rw [← e]; exact this
theorem Ow.objat {α : Type} {w : World} {F : Nat → Prop} {e : TypeId} {E : Enc α} {b off n c i : Nat} {l : List α} (h : Ow w F e E (.slice (some ⟨b, off, none⟩) n c) l) (hi : i < l.length) : ∃ cur, w.heap[b]? = some (.cells cur e (0, 0)) := by
  rcases h with ⟨a, h1, rfl⟩ | ⟨h, hF⟩
  · simp at hi
  · rcases h.2 with ⟨h0, _⟩ | ⟨g, cap, cur, h2, _, hg, _⟩
    · simp at h0
    · simp at h2
      obtain ⟨⟨rfl, rfl⟩, _⟩ := h2
      exact ⟨cur, hg⟩
/-- A store into a block of another element type leaves it. -/
theorem Ow.st_ne {α : Type} {w : World} {F : Nat → Prop} {e t : TypeId} {E : Enc α} {v : Value} {l : List α} (h : Ow w F e E v l) {b : Nat} {cs : Array Value} {fz : Nat × Nat} (hb : w.heap[b]? = some (.cells cs t fz)) (hne : e ≠ t) (i : Nat) (u : Value) : Ow (w.setCell ⟨b, i, none⟩ u) F e E v l := by
  rcases h with h | ⟨h, hF⟩
  · exact .inl h
  · exact .inr ⟨own_setCell h (own_block_elem h hb hne) u, hF⟩
theorem Ow.frz {α : Type} {w : World} {F : Nat → Prop} {e : TypeId} {E : Enc α} {b off n c i : Nat} {l : List α} (h : Ow w F e E (.slice (some ⟨b, off, none⟩) n c) l) (hi : i < l.length) (m : Nat) : w.frozen? ⟨b, m, none⟩ = false := by
  rcases h with ⟨a, h1, rfl⟩ | ⟨h, hF⟩
  · simp at hi
  · rcases h.2 with ⟨h0, _⟩ | ⟨g, cap, cur, h2, _, hg, _⟩
    · simp at h0
    · simp at h2
      obtain ⟨⟨rfl, rfl⟩, _⟩ := h2
      exact obj_frz hg m
end Go.Tt
namespace Go.Proofs.YtgpdpalhkkjmiaaGreatDoor
set_option linter.unusedVariables false
set_option linter.unusedSimpArgs false
open Go.RowKit Go.Lib Go.Tt
end Go.Proofs.YtgpdpalhkkjmiaaGreatDoor

/- A cell of one's own, written over: nothing else turns. -/
namespace Go.Proofs.YtgpdpalhkkjmiaaGreatDoor
set_option linter.unusedVariables false
set_option linter.unusedSimpArgs false
open Go.RowKit Go.Lib Go.Tt
end Go.Proofs.YtgpdpalhkkjmiaaGreatDoor

/- Two cells that are alike are told to be alike. -/
namespace Go.Proofs.YtgpdpalhkkjmiaaGreatDoor
set_option linter.unusedVariables false
set_option linter.unusedSimpArgs false
open Go.RowKit Go.Lib Go.Tt
end Go.Proofs.YtgpdpalhkkjmiaaGreatDoor

/- Merged: Rga2 InsL. -/
import Derived.Test.YtgpdpalhkkjmiaaGreatDoorV08
import Derived.Test.YtgpdpalhkkjmiaaGreatDoorV15
/- Layer 10: rga.place. -/
namespace Go.Proofs.YtgpdpalhkkjmiaaGreatDoor
set_option linter.unusedVariables false
set_option linter.unusedSimpArgs false
set_option linter.unusedVariables false
set_option linter.unusedSimpArgs false
open Go.RowKit Go.Lib Go.Tt Go.Shelf
/-- Where one stands, going on behind what is greater. -/
def walkTo (l : List El) (s : Dt) (i : Nat) : Nat := i + (l.drop i).findIdx (fun e => !dotLess s (stOf e))
theorem walkTo_eq {l : List El} {s : Dt} {i k : Nat} (hi : i ≤ k) (hk : k ≤ l.length) (h : ∀ j, (hj : j < l.length) → i ≤ j → j < k → dotLess s (stOf l[j]) = true) (he : ∀ hk : k < l.length, dotLess s (stOf l[k]) = false) : walkTo l s i = k := by
  unfold walkTo
  have : (l.drop i).findIdx (fun e => !dotLess s (stOf e)) = k - i := by
    rcases Nat.lt_or_ge k l.length with h1 | h1
    · refine (List.findIdx_eq (by rw [List.length_drop]; omega)).2 ⟨?_, fun j hj => ?_⟩
      · rw [List.getElem_drop]
        have := he h1
        simp only [show i + (k - i) = k by omega, this, Bool.not_false]
      · rw [List.getElem_drop, h (i + j) (by omega) (by omega) (by omega)]; rfl
    · obtain rfl : k = l.length := by omega
      rw [show l.length - i = (l.drop i).length by rw [List.length_drop]]
      refine List.findIdx_eq_length_of_false fun x hx => ?_
      obtain ⟨j, hj, rfl⟩ := List.getElem_of_mem hx
      rw [List.length_drop] at hj
      rw [List.getElem_drop, h (i + j) (by omega) (by omega) (by omega)]; rfl
  rw [this]
  omega
/-- Where an element comes; none: there is no such to stand behind. -/
def placeOf (l : List El) (s : Dt) (ref : Dt) : Option Nat := if ref = (0, 0) then some (walkTo l s 0) else if findEl l ref < 0 then none else some (walkTo l s (findEl l ref + 1).toNat)
theorem findEl_lt (l : List El) (d : Dt) : -1 ≤ findEl l d ∧ findEl l d < l.length := by
  unfold findEl idxFL
  split <;> omega
theorem jump_ret {l : Nat} {J : Act → World → Prop} {Q : Exit → Act → World → Prop} {a : Act} {w : World} : Exit.jump l J Q .ret a w = Q .ret a w := rfl
def nOf : Value → Nat
  | .int _ i => i.toNat
  | _ => 0
/-- Where one starts. -/
def startOf (l : List El) (ref : Dt) : Option Nat := if ref = (0, 0) then some 0 else if findEl l ref < 0 then none else some (findEl l ref + 1).toNat
/-- On the way one stands at k. -/
def Rel (l : List El) (s : Dt) (ref : Dt) (k : Nat) : Prop := ∃ i, startOf l ref = some i ∧ i ≤ k ∧ k ≤ l.length ∧ ∀ j, (hj : j < l.length) → i ≤ j → j < k → dotLess s (stOf l[j]) = true
theorem Rel.le {l : List El} {s ref : Dt} {k : Nat} (h : Rel l s ref k) : k ≤ l.length := by obtain ⟨i, -, -, h, -⟩ := h; exact h
theorem Rel.step {l : List El} {s ref : Dt} {k : Nat} (h : Rel l s ref k) (hk : k < l.length) (hd : dotLess s (stOf l[k]) = true) : Rel l s ref (k + 1) := by
  obtain ⟨i, h1, h2, h3, h4⟩ := h
  refine ⟨i, h1, by omega, hk, fun j hj h5 h6 => ?_⟩
  rcases Nat.lt_or_ge j k with h7 | h7
  · exact h4 j hj h5 h7
  · obtain rfl : j = k := by omega
    exact hd
theorem Rel.fin {l : List El} {s ref : Dt} {k : Nat} (h : Rel l s ref k) (he : ∀ hk : k < l.length, dotLess s (stOf l[k]) = false) : placeOf l s ref = some k := by
  obtain ⟨i, h1, h2, h3, h4⟩ := h
  unfold startOf at h1
  unfold placeOf
  split at h1
  · next hr =>
    obtain rfl := Option.some.inj h1
    rw [if_pos hr, walkTo_eq h2 h3 h4 he]
  · next hr =>
    split at h1
    · cases h1
    · next hf =>
      rw [if_neg hr, if_neg hf, Option.some.inj h1, walkTo_eq h2 h3 h4 he]
theorem jumps_of {P : Program} {a : Act} {w : World} {Q : Exit → Act → World → Prop} {c rest : Code} (l : Nat) (J : Act → World → Prop) (μ : Act → World → Nat) (hf : findLabel c l = some (Code.skip.seq rest))
    (first : (∀ a w, J a w → rest.wp P (Exit.jump l J Q) a w) → c.wp P (Exit.jump l J Q) a w)
    (pass : ∀ a w, J a w → rest.wp P (Exit.jump l (fun a' w' => J a' w' ∧ μ a' w' < μ a w) Q) a w) : (Code.scope c).wp P Q a w :=
  wp_scope_jumps l J μ hf (first fun a w h => wp_mono (pass a w h) fun e a w he => by cases e <;> first | exact ⟨he.1, he.2.1⟩ | exact he) fun a w h => wp_seq (wp_skip (pass a w h))
set_option maxHeartbeats 4000000 in
set_option maxRecDepth 100000 in
theorem place_ok {w : World} {b g : Nat} {l : List El} {cs : Array Value} {vl : Value} {x : El} (hB : w.heap[b]? = some (.cells cs 75 (0, 0))) (h8 : cs[8]? = some vl) (hl : RdS w eEl vl l)
    (hG : w.heap[g]? = some (.cells (eEl.f x).toArray 91 (0, 0))) (ref : Dt) :
    Calls Tryz.prog 110 #[.pointer (some ⟨b, 0, none⟩), .pointer (some ⟨g, 0, none⟩), .agg #[.int .i64 ref.1, .int .i64 ref.2]] w fun e w' => e = .returned (.tuple #[.int .i64 ((placeOf l (stOf x) ref).getD 0 : Nat), .bool (placeOf l (stOf x) ref).isSome]) ∧ Frm No w w' := by
  obtain ⟨al, cl, rfl⟩ := hl.sh
  have hlm := hl.facts
  have hlm1 : l.length ≤ 9223372036854775807 := by have := hlm.2.1; have := hlm.2.2.1; unfold maxLen at *; omega
  clear hlm
  obtain ⟨ra, hra⟩ : ∃ r : Value, Hid (r = .tuple #[.int .i64 ((placeOf l (stOf x) ref).getD 0 : Nat), .bool (placeOf l (stOf x) ref).isSome]) := ⟨_, Lib.hid rfl⟩
  rw [← hra.out]
  have HB := Lib.hid hB
  have H8 := Lib.hid h8
  have HL := Lib.hid hl
  have HG := Lib.hid hG
  have ng := lt_of_block hG
  have nb := lt_of_block hB
  clear hB h8 hl hG
  go_enter Tryz.func110, Tryz.ntmps110
  go_wp2_with (fail)
  refine jumps_of 0 (fun a wr => ∃ (k : Nat) (u9 u10 u11 u12 u13 u14 u15 u16 u17 u18 u19 u20 u21 u22 u23 u24 u25 u26 u27 u28 u29 u30 u31 u32 u33 u34 u35 u36 u37 u38 u39 : Value), a = { tmps := #[.pointer (some ⟨b, 0, none⟩), .pointer (some ⟨g, 0, none⟩), .agg #[.int .i64 ref.1, .int .i64 ref.2], undef, undef, .pointer (some ⟨w.heap.size, 0, none⟩), .int .i64 0, .bool false, .int .i64 k, u9, u10, u11, u12, u13, u14, u15, u16, u17, u18, u19, u20, u21, u22, u23, u24, u25, u26, u27, u28, u29, u30, u31, u32, u33, u34, u35, u36, u37, u38, u39], defers := [] } ∧ Rel l (stOf x) ref k ∧ Frm No w wr) (fun a _ => l.length - nOf (a.tmps.getD 8 undef)) rfl ?first ?pass
  case pass =>
    rintro a wr ⟨k, u9, u10, u11, u12, u13, u14, u15, u16, u17, u18, u19, u20, u21, u22, u23, u24, u25, u26, u27, u28, u29, u30, u31, u32, u33, u34, u35, u36, u37, u38, u39, rfl, hr, F⟩
    have HR := Lib.hid hr
    have hkl := hr.le
    clear hr
    have q8 : wr.cell? ⟨b, 8, none⟩ = some (.slice al l.length cl) := by rw [obj_cell (F.obj HB.out id), H8.out]
    have nb' : b < wr.heap.size := lt_of_block (F.obj HB.out id)
    by_cases hlt : k < l.length
    · have GB := F.obj HG.out id
      have g0 : wr.cell? ⟨g, 0, none⟩ = some (.int .i64 x.1) := obj_cell GB 0
      have g2 : wr.cell? ⟨g, 0 + 2, none⟩ = some (.int .i64 x.2.2.1) := obj_cell GB 2
      obtain ⟨bl, off, rfl, hb, hc⟩ := (HL.out.no F).at hlt
      have e0 : wr.cell? ⟨bl, off + k * 5, none⟩ = some (.int .i64 l[k].1) := hc 0 _ rfl
      have e2 : wr.cell? ⟨bl, off + k * 5 + 2, none⟩ = some (.int .i64 l[k].2.2.1) := hc 2 _ rfl
      clear hc GB
      obtain ⟨y, hy⟩ : ∃ y, Hid (y = l[k]) := ⟨_, Lib.hid rfl⟩
      rw [← hy.out] at e0 e2
      have HS := Lib.hid (fun W (f : Frm No wr W) => stamp_ok (w := W) (x := x) ((f.cell (p := ⟨g, 0, none⟩) (Nat.lt_of_lt_of_le ng F.size) id).trans g0) ((f.cell (p := ⟨g, 0 + 2, none⟩) (Nat.lt_of_lt_of_le ng F.size) id).trans g2))
      have HE := Lib.hid (fun W (f : Frm No wr W) => stamp_ok (w := W) (x := y) ((f.cell (p := ⟨bl, off + k * 5, none⟩) hb id).trans e0) ((f.cell (p := ⟨bl, off + k * 5 + 2, none⟩) hb id).trans e2))
      have HC := Lib.hid (fun W => stLess_ok (stOf x) (stOf y) W)
      rcases hd : dotLess (stOf x) (stOf y) with _ | _
      all_goals
        have HD := Lib.hid hd
        rw [hd] at HC
        clear hd
        go_wp2_with (fail)
        refine wp_region_plan [([0, 1, 2, 3, 4, 5, 6, 7, 8, 10, 11, 12, 13, 14, 15, 9], [13]), ([16, 17, 18], [])] 40 (by kernel_rfl) (by kernel_rfl) (by simp) ?_
        intro N hN
        simp only [wpSegs, List.map_cons, List.map_nil, List.getD_cons_zero, List.getD_cons_succ]
        go_wp2_with (fail)
        refine (HS.out _ (Frm.drew No wr)).mono ?_
        rintro e w1 ⟨rfl, f1⟩
        have F1 : Frm No wr w1 := (Frm.drew No wr).trans f1
        have q8' : w1.cell? ⟨b, 8, none⟩ = some (.slice (some ⟨bl, off, none⟩) l.length cl) := (F1.cell (p := ⟨b, 8, none⟩) nb' id).trans q8
        have nb1 : b < w1.heap.size := Nat.lt_of_lt_of_le nb' F1.size
        clear f1
        go_wp2_with (fail)
        refine ⟨again_cons (again_of rfl rfl ?_) again_nil, ?_⟩
        · go_simp
        go_wp2_with (fail)
        refine (HE.out _ F1).mono ?_
        rintro e w2 ⟨rfl, f2⟩
        have F2 := F1.trans f2
        clear f2 q8' nb1
        go_wp2_with (fail)
        refine (HC.out _).mono ?_
        rintro e w3 ⟨rfl, f3⟩
        have F3 := F.trans (F2.trans f3)
        clear F1 F2 f3 q8 nb' e0 e2 g0 g2 HS HE HC
        go_wp2_with (fail)
      · have hp := HR.out.fin fun hk => by rw [← hy.out]; exact HD.out
        rw [jump_ret]
        go_ret2
        exact ⟨congrArg Ending.returned (by rw [hra.out, hp]; rfl), F3⟩
      · go_step3
        exact ⟨rfl, ⟨k + 1, _, _, _, _, _, _, _, _, _, _, _, _, _, _, _, _, _, _, _, _, _, _, _, _, _, _, _, _, _, _, _, rfl, HR.out.step hlt (by rw [← hy.out]; exact HD.out), F3⟩, by show l.length - (((k : Int) + 1)).toNat < l.length - (k : Int).toNat; omega⟩
    · obtain rfl : k = l.length := by omega
      have hp := HR.out.fin fun hk => absurd hk (by omega)
      have HP := Lib.hid hp
      clear hp
      go_wp2_with (fail)
      refine wp_region_plan [([0, 1, 2, 3, 4, 5, 6, 7, 8, 10, 11, 12, 13, 14, 15, 9], [13]), ([16, 17, 18], [])] 40 (by kernel_rfl) (by kernel_rfl) (by simp) ?_
      intro N hN
      simp only [wpSegs, List.map_cons, List.map_nil, List.getD_cons_zero, List.getD_cons_succ]
      go_wp2_with (fail)
      refine ⟨again_cons (again_off rfl rfl) again_nil, ?_⟩
      go_wp2_with (fail)
      rw [jump_ret]
      go_ret2
      exact ⟨congrArg Ending.returned (by rw [hra.out, HP.out]; rfl), F.dr 1⟩
  case first =>
    intro pass
    have HPS := Lib.hid pass
    clear pass
    by_cases hr : ref = (0, 0)
    · have r1 : ref.1 = 0 := by rw [hr]
      have r2 : ref.2 = 0 := by rw [hr]
      have hR : Hid (Rel l (stOf x) ref 0) := Lib.hid ⟨0, if_pos hr, Nat.le_refl _, Nat.zero_le _, fun j _ _ h => absurd h (by omega)⟩
      obtain ⟨ra', rb'⟩ := ref
      simp only at r1 r2
      subst r1 r2
      clear hr
      go_wp2_with (fail)
      go_step3
      exact ⟨rfl, ⟨0, _, _, _, _, _, _, _, _, _, _, _, _, _, _, _, _, _, _, _, _, _, _, _, _, _, _, _, _, _, _, _, rfl, hR.out, (Frm.refl No w).al _⟩⟩
    · have hf := Lib.hid (fun W (f : Frm No w W) => find_ok (f.obj HB.out id) H8.out (HL.out.no f) ref)
      have hfl := findEl_lt l ref
      have hS : Hid (startOf l ref = if findEl l ref < 0 then none else some (findEl l ref + 1).toNat) := Lib.hid (if_neg hr)
      have hz : ¬ ref.1 = 0 ∨ ¬ ref.2 = 0 := by
        by_cases h1 : ref.1 = 0
        · exact .inr fun h2 => hr (Prod.ext h1 h2)
        · exact .inl h1
      have hP : Hid (findEl l ref < 0 → placeOf l (stOf x) ref = none) := Lib.hid (fun h => by unfold placeOf; rw [if_neg hr, if_pos h])
      clear hr
      obtain ⟨u, hu⟩ : ∃ u, Hid (u = findEl l ref) := ⟨_, Lib.hid rfl⟩
      rw [← hu.out] at hf hfl hS hP
      rcases hz with hz | hz
      all_goals
        go_wp2_with (fail)
        refine (hf.out _ ((Frm.refl No w).al _)).mono ?_
        rintro e w1 ⟨rfl, f1⟩
        have F1 : Frm No w w1 := ((Frm.refl No w).al _).trans f1
        clear f1 hf
        by_cases hu0 : u < 0
        · have hn := Lib.hid (hP.out hu0)
          obtain rfl : u = -1 := by omega
          go_wp2_with (fail)
          rw [jump_ret]
          go_ret2
          exact ⟨congrArg Ending.returned (by rw [hra.out, hn.out]; rfl), F1⟩
        · obtain ⟨k, hk⟩ : ∃ k : Nat, u = k := ⟨u.toNat, by omega⟩
          subst hk
          have hR : Hid (Rel l (stOf x) ref (k + 1)) := Lib.hid ⟨k + 1, by rw [hS.out, if_neg hu0]; congr 1, Nat.le_refl _, by omega, fun j _ _ h => absurd h (by omega)⟩
          have hk0 : ¬ ((k : Int) + 1 = 0) := by omega
          clear hS hP
          go_wp2_with (fail)
          go_step3
          rename_i K hK
          exact hK _ _ (HPS.out _ _ ⟨k + 1, _, _, _, _, _, _, _, _, _, _, _, _, _, _, _, _, _, _, _, _, _, _, _, _, _, _, _, _, _, _, _, rfl, hR.out, F1⟩)
end Go.Proofs.YtgpdpalhkkjmiaaGreatDoor

/- Lists: slices.Insert at elements (printed by elemgen.py). -/
namespace Go.Proofs.YtgpdpalhkkjmiaaGreatDoor
set_option linter.unusedVariables false
set_option linter.unusedSimpArgs false
open Go.RowKit Go.Lib Go.Tt
set_option maxHeartbeats 1000000 in
set_option maxRecDepth 100000 in
theorem insEndL_ok {w : World} {F : Nat → Prop} {a : Option Addr} {n c : Nat} {l : List El} (h : Ow w F 91 eEl (.slice a n c) l) {g : Nat} {x : El} (hg : w.heap[g]? = some (.cells (eEl.f x).toArray 91 (0, 0))) (hc63 : c ≤ 9223372036854775807) (hb : (n + 1) * 48 ≤ 140737488355328) :
    Calls Tryz.prog 111 #[.slice a n c, .int .i64 n, .slice (some ⟨g, 0, none⟩) 1 1] w fun e w' => ∃ a' c', e = .returned (.slice a' (n + 1) c') ∧ Ow w' (Nw F w w') 91 eEl (.slice a' (n + 1) c') (l ++ [x]) ∧ Frm F w w' := by
  obtain ⟨hn, hc⟩ := h.cap
  have HN := Lib.hid hn
  have hs : RdS w eEl (.slice (some ⟨g, 0, none⟩) 1 1) [x] := ⟨_, 1, rfl, Nat.le_refl _, by decide, (by intro h; cases h), fun _ => ⟨g, 0, rfl, fun m u hu => by
    rw [eEl.flat_one] at hu
    rw [Nat.zero_add, obj_cell hg]
    simpa using hu⟩⟩
  clear hn
  go_enter Tryz.func111, Tryz.ntmps111
  have hC1 : l.length + 1 ≤ maxLen := by rw [← HN.out]; unfold maxLen; omega
  have hC2 : (l.length + 1) * 48 ≤ 140737488355328 := by rw [← HN.out]; omega
  rcases a with _ | ⟨ab, ao, asp⟩
  · obtain ⟨-, -, -, hnil⟩ := h.rd.facts
    obtain ⟨rfl, rfl⟩ := hnil rfl
    go_wp2_with (at_builtin; refine wpList_ap _ rfl (.tmp 23) (.tmp 24) 73 73 rfl 91 _ 48 Tryz.underlying73 i_el rfl h (hs.src Tryz.underlying73) rfl rfl rfl hC1 hC2 ?_; intro a1 c1 w1 o1 f1; rw [← HN.out] at o1 ⊢)
    go_ret
    exact ⟨a1, c1, rfl, o1, f1⟩
  · go_wp2_with (at_builtin; refine wpList_ap _ rfl (.tmp 23) (.tmp 24) 73 73 rfl 91 _ 48 Tryz.underlying73 i_el rfl h (hs.src Tryz.underlying73) rfl rfl rfl hC1 hC2 ?_; intro a1 c1 w1 o1 f1; rw [← HN.out] at o1 ⊢)
    all_goals go_ret
    all_goals exact ⟨a1, c1, rfl, o1, f1⟩
set_option maxHeartbeats 1000000 in
set_option maxRecDepth 100000 in
theorem insGrowL_ok {w : World} {b n i : Nat} {l : List El} (h : RdS w eEl (.slice (some ⟨b, 0, none⟩) n n) l) {g : Nat} {x : El} (hg : w.heap[g]? = some (.cells (eEl.f x).toArray 91 (0, 0))) (hi : i < n) (hb : (n + 1) * 48 ≤ 140737488355328) :
    Calls Tryz.prog 111 #[.slice (some ⟨b, 0, none⟩) n n, .int .i64 i, .slice (some ⟨g, 0, none⟩) 1 1] w fun e w' => ∃ a' c', e = .returned (.slice a' (n + 1) c') ∧ Ow w' (Nw No w w') 91 eEl (.slice a' (n + 1) c') (l.take i ++ x :: l.drop i) ∧ Frm No w w' := by
  obtain ⟨hn, -⟩ := h.facts
  have HN := Lib.hid hn
  clear hn
  have hz2 : ¬ ((i : Int) = (n : Int)) := by omega
  have hz3 : (n : Int) < (n : Int) + 1 := by omega
  have hin : i ≤ n := by omega
  have hkk : (n : Int) + 1 - (i : Int) = ((n + 1 - i : Nat) : Int) := by omega
  have hwi : IntKind.i64.wrap ((n : Int) + 1) = (n : Int) + 1 := by rw [IntKind.wrap_i64]; omega
  have hni : ¬ (n = i) := by omega
  have hb3 : (i : Int) ≤ (n : Int) := by omega
  have hl1 : (l.take i).length = i := by rw [List.length_take]; have := HN.out; omega
  have HT := Lib.hid (RdS_pre (l := l.take i) (l2 := l.drop i) (by rw [List.take_append_drop]; exact h) hl1.symm)
  have hbw : b < w.heap.size := h.blk_lt (by show sblk (.slice (some ⟨b, 0, none⟩) n n) = some b; obtain ⟨m, rfl⟩ : ∃ m, n = m + 1 := ⟨n - 1, by omega⟩; rfl)
  have hgw := lt_of_block hg
  have HH := Lib.hid h
  clear h hl1
  go_enter Tryz.func111, Tryz.ntmps111
  go_wp2_with (at_builtin; refine wpList_apz _ rfl (.tmp 34) (.tmp 39) 73 3 91 rfl Tryz.underlying73 Tryz.underlying3 _ 48 i_el rfl HT.out .i64 (n + 1 - i) (by omega) (by omega) (by omega) (by unfold maxLen; omega) rfl rfl ?_)
  obtain ⟨C, N0, hN0⟩ : ∃ (C N0 : Nat), Hid (N0 = w.heap.size ∧ C = 0) := ⟨_, _, Lib.hid ⟨rfl, rfl⟩⟩
  intro c1 w1 row B1 hr1 hge hc1 htk f1 z1
  have hsz : i + (n + 1 - i) = n + 1 := by omega
  rw [hsz] at hge ⊢
  clear hsz
  have hRow : row.size = c1 * 5 := hr1
  have HRW := Lib.hid hr1
  have HTK := Lib.hid htk
  clear hr1 htk hkk
  have hg1 := f1.obj hg id
  have hb1 := (HH.out.no f1)
  unfold maxLen at hc1
  have hGi : ¬ (c1 = i) := by omega
  have hGim : ¬ (c1 = i + 1) := by omega
  go_wp2_with (refine wpList_copyk _ rfl (.tmp 43) (.tmp 44) 73 73 91 rfl (eEl.f x) 5 Tryz.underlying73 (by kernel_rfl) B1 ?d1 ?d2 ?d3 (eEl.one x) rfl rfl ?_)
  case d1 => rw [eEl.len, show Nat.min 1 (n + 1 - i) = 1 from Nat.min_eq_left (by omega)]; rfl
  case d2 => intro j v hj; rw [Addr.add_lit, Nat.zero_add, obj_cell hg1]; simpa using hj
  case d3 => rw [eEl.len]; show i * 5 + 5 ≤ row.size; omega
  intro w2 B2 f2 z2
  have hw1 : IntKind.i64.wrap ((i : Int) + 1) = (i : Int) + 1 := by rw [IntKind.wrap_i64]; omega
  have hr2 := hb1.frm f2 fun k hk e => by
    have : sblk (.slice (some ⟨b, 0, none⟩) n n) = some b := by obtain ⟨m, rfl⟩ : ∃ m, n = m + 1 := ⟨n - 1, by omega⟩; rfl
    rw [this] at hk
    obtain rfl := Option.some.inj hk
    omega
  have HR2 := Lib.hid hr2
  clear hr2 hb1
  go_wp2
  refine wp_region_plan [([0, 1, 2, 5, 6, 7, 3, 4, 8], [])] 95 (by kernel_rfl) (by kernel_rfl) (by simp) ?_
  intro N hN
  simp only [wpSegs, List.map_cons, List.map_nil, List.getD_cons_zero, List.getD_cons_succ]
  go_wp2_with (refine wpList_copyk _ rfl (.tmp 50) (.tmp 53) 73 73 91 rfl (eEl.flat (l.drop i)) 5 Tryz.underlying73 (by kernel_rfl) B2 ?d1 ?d2 ?d3 (eEl.flat_one' _) rfl rfl ?_)
  case d1 => rw [eEl.flat_len, List.length_drop, ← HN.out, show Nat.min (n - i) (n - i) = n - i from Nat.min_self _]; rfl
  case d2 =>
    intro j v hj
    rw [Addr.add_lit]
    exact RdS.cellAt HR2.out (by omega) _ _ (eEl.flat_drop l i (by have := HN.out; omega) j v hj)
  case d3 => rw [eEl.flat_len, List.length_drop, ← HN.out, List.size_toArray, rowPut_len _ _ _ (by rw [eEl.len, Array.length_toList]; show i * 5 + 5 ≤ row.size; omega), Array.length_toList]; show (i + 1) * 5 + (n - i) * 5 ≤ row.size; omega
  intro w3 B3 f3 z3
  go_wp2
  go_ret
  have hn := HN.out
  have hlen : (l.take i ++ x :: l.drop i).length = n + 1 := by rw [List.length_append, List.length_cons, List.length_take, List.length_drop]; omega
  have hfit : (l.length + 1) * 5 ≤ row.toList.length := by rw [show row.toList.length = row.size from Array.length_toList]; omega
  have hfin := (row_ins (E := eEl) (x := x) (by omega) HTK.out hfit).2
  have o3 : Ow w3 (fun k => k = w.heap.size) 91 eEl (.slice (some ⟨w.heap.size, 0, none⟩) (l.take i ++ x :: l.drop i).length c1) (l.take i ++ x :: l.drop i) :=
    Ow.row B3 rfl (by omega) (by unfold maxLen; omega) (by
      have h1 : i * 5 + (eEl.f x).length ≤ row.toList.length := by rw [eEl.len, Array.length_toList]; show i * 5 + 5 ≤ row.size; omega
      rw [List.size_toArray, rowPut_len _ _ _ (by rw [eEl.flat_len, List.length_drop, rowPut_len _ _ _ h1, Array.length_toList]; show (i + 1) * 5 + (l.length - i) * 5 ≤ row.size; omega), rowPut_len _ _ _ h1, Array.length_toList]; exact HRW.out) (by rw [hlen, hn]; exact hfin)
  rw [hlen] at o3
  have z3' : w3.heap.size = w.heap.size + 1 := by have e : w2.drew.heap.size = w2.heap.size := rfl; omega
  refine ⟨_, c1, rfl, o3.mono fun k _ e => .inr ⟨by omega, by omega⟩, ?_⟩
  exact (f1.then f2 fun k hk e => by omega).then ((Frm.drew (fun k => k = w.heap.size) w2).trans f3) fun k hk e => by omega
set_option maxHeartbeats 1000000 in
set_option maxRecDepth 100000 in
theorem insRoomL_ok {w : World} {F : Nat → Prop} {b n c i : Nat} {l : List El} (h : Ow w F 91 eEl (.slice (some ⟨b, 0, none⟩) n c) l) {g : Nat} {x : El} (hg : w.heap[g]? = some (.cells (eEl.f x).toArray 91 (0, 0))) (hF : ¬ F g) (hi : i < n) (hc : n + 1 ≤ c) :
    Calls Tryz.prog 111 #[.slice (some ⟨b, 0, none⟩) n c, .int .i64 i, .slice (some ⟨g, 0, none⟩) 1 1] w fun e w' => e = .returned (.slice (some ⟨b, 0, none⟩) (n + 1) c) ∧ Ow w' F 91 eEl (.slice (some ⟨b, 0, none⟩) (n + 1) c) (l.take i ++ x :: l.drop i) ∧ Frm F w w' := by
  obtain ⟨b', row, e, B0, hFb, hn, -, hcm, hrs, htk⟩ := h.cases (by omega)
  simp only [Option.some.injEq, Addr.mk.injEq, and_true] at e
  subst e
  have HN := Lib.hid hn
  have HTK := Lib.hid htk
  have hRow : row.size = c * 5 := hrs
  have HO := Lib.hid h
  have hgb : g ≠ b := fun e => hF (e ▸ hFb)
  unfold maxLen at hcm
  clear hn htk hrs h
  have hz2 : ¬ ((i : Int) = (n : Int)) := by omega
  have hz3 : ¬ ((c : Int) < (n : Int) + 1) := by omega
  have hin : i ≤ n := by omega
  have hwi : IntKind.i64.wrap ((n : Int) + 1) = (n : Int) + 1 := by rw [IntKind.wrap_i64]; omega
  have hw1 : IntKind.i64.wrap ((i : Int) + 1) = (i : Int) + 1 := by rw [IntKind.wrap_i64]; omega
  have hci : ¬ (c = i) := by omega
  have hci1 : ¬ (c = i + 1) := by omega
  have hov : ∀ lb cb, (callFunc 150 #[.slice (some ⟨g, 0, none⟩) 1 1, .slice (some ⟨b, (i + 1) * 5, none⟩) lb cb]).run Tryz.prog w = .ok (.value (.bool false)) w := fun lb cb => by
    rw [run_callFunc_extern Tryz.func150 (by kernel_rfl) (by kernel_rfl) (by kernel_rfl) (e := Extern.SlicesOverlaps.overlaps #[73, 73] #[4]) (by kernel_rfl),
      Lib.run_overlaps_apart w 73 4 91 Tryz.underlying73 5 Tryz.sizeOf91 ⟨g, 0, none⟩ ⟨b, (i + 1) * 5, none⟩ 1 1 lb cb hgb 91 91 5 row.size (by simp [World.shape?, hg, eEl]) (by simp [World.shape?, B0]) (by omega) (by simp [World.frozen?, hg]) (by simp [World.frozen?, hg])]
    rfl
  go_enter Tryz.func111, Tryz.ntmps111
  go_wp2_with (simp only [hov])
  refine wp_region_plan [([0, 1, 2, 5, 6, 7, 3, 4, 8], [])] 95 (by kernel_rfl) (by kernel_rfl) (by simp) ?_
  intro N hN
  simp only [wpSegs, List.map_cons, List.map_nil, List.getD_cons_zero, List.getD_cons_succ]
  go_wp2_with (refine wpList_copyk _ rfl (.tmp 73) (.tmp 76) 73 73 91 rfl (eEl.flat (l.drop i)) 5 Tryz.underlying73 (by kernel_rfl) B0 ?d1 ?d2 ?d3 (eEl.flat_one' _) rfl rfl ?_)
  case d1 => rw [eEl.flat_len, List.length_drop, ← HN.out]; show (n - i) * 5 = Nat.min _ _ * 5; congr 1; simp only [Nat.min_def]; split <;> omega
  case d2 =>
    intro j v hj
    rw [Addr.add_lit]
    exact RdS.cellAt HO.out.rd (by omega) _ _ (eEl.flat_drop l i (by have := HN.out; omega) j v hj)
  case d3 => rw [eEl.flat_len, List.length_drop, ← HN.out]; show (i + 1) * 5 + (n - i) * 5 ≤ row.size; omega
  intro w2 B2 f2 z2
  have hg2 := f2.obj (show w.drew.heap[g]? = some (.cells (eEl.f x).toArray 91 (0, 0)) from hg) hgb
  have hs1 : (i + 1) * 5 + (eEl.flat (l.drop i)).length ≤ row.toList.length := by rw [eEl.flat_len, List.length_drop, ← HN.out, show row.toList.length = row.size from Array.length_toList]; show (i + 1) * 5 + (n - i) * 5 ≤ row.size; omega
  have hs2 : i * 5 + (eEl.f x).length ≤ (rowPut row.toList ((i + 1) * 5) (eEl.flat (l.drop i))).length := by rw [rowPut_len _ _ _ hs1, eEl.len, show row.toList.length = row.size from Array.length_toList]; show i * 5 + 5 ≤ row.size; omega
  have HS1 := Lib.hid hs1
  have HS2 := Lib.hid hs2
  clear hs1 hs2
  go_wp2_with (refine wpList_copyk _ rfl (.tmp 80) (.tmp 81) 73 73 91 rfl (eEl.f x) 5 Tryz.underlying73 (by kernel_rfl) B2 ?d1 ?d2 ?d3 (eEl.one x) rfl rfl ?_)
  case d1 => rw [eEl.len, show Nat.min 1 (n + 1 - i) = 1 from Nat.min_eq_left (by omega)]; rfl
  case d2 => intro j v hj; rw [Addr.add_lit, Nat.zero_add, obj_cell hg2]; simpa using hj
  case d3 => rw [List.size_toArray]; exact HS2.out
  intro w3 B3 f3 z3
  go_wp2
  go_ret
  have hn := HN.out
  have hlen : (l.take i ++ x :: l.drop i).length = n + 1 := by rw [List.length_append, List.length_cons, List.length_take, List.length_drop]; omega
  have hfit : (l.length + 1) * 5 ≤ row.toList.length := by rw [show row.toList.length = row.size from Array.length_toList]; omega
  have htki : row.toList.take (i * eEl.k) = eEl.flat (l.take i) := by
    rw [← eEl.flat_take, ← HTK.out, List.take_take, Nat.min_eq_left (Nat.mul_le_mul_right _ (by omega))]
  have hfin := (row_ins (E := eEl) (x := x) (by omega) htki hfit).1
  have o3 : Ow w3 F 91 eEl (.slice (some ⟨b, 0, none⟩) (l.take i ++ x :: l.drop i).length c) (l.take i ++ x :: l.drop i) :=
    Ow.row B3 hFb (by omega) (by unfold maxLen; omega) (by rw [List.size_toArray, rowPut_len _ _ _ HS2.out, rowPut_len _ _ _ HS1.out, show row.toList.length = row.size from Array.length_toList]; exact hRow) (by rw [hlen, hn]; exact hfin)
  rw [hlen] at o3
  exact ⟨rfl, o3, ((Frm.drew F w).trans (f2.mono fun k hk e => e ▸ hFb)).trans (f3.mono fun k hk e => e ▸ hFb)⟩
theorem insertL_ok {w : World} {F : Nat → Prop} {a : Option Addr} {n c i : Nat} {l : List El} (h : Ow w F 91 eEl (.slice a n c) l) {g : Nat} {x : El} (hg : w.heap[g]? = some (.cells (eEl.f x).toArray 91 (0, 0))) (hF : ¬ F g) (hi : i ≤ n) (hb : (n + 1) * 48 ≤ 140737488355328) :
    Calls Tryz.prog 111 #[.slice a n c, .int .i64 i, .slice (some ⟨g, 0, none⟩) 1 1] w fun e w' => ∃ a' c', e = .returned (.slice a' (n + 1) c') ∧ Ow w' (Nw F w w') 91 eEl (.slice a' (n + 1) c') (l.take i ++ x :: l.drop i) ∧ Frm F w w' := by
  obtain ⟨hn, hnc, hcm, -⟩ := h.rd.facts
  unfold maxLen at hcm
  rcases Nat.lt_or_ge i n with hlt | hge
  · obtain ⟨b, row, rfl, -⟩ := h.cases (by omega)
    rcases Nat.lt_or_ge n c with hc | hc
    · refine (insRoomL_ok h hg hF hlt hc).mono ?_
      rintro e w' ⟨rfl, o, f⟩
      exact ⟨_, c, rfl, o.mono fun k _ h => .inl h, f⟩
    · obtain rfl : c = n := by omega
      refine (insGrowL_ok h.rd hg hlt hb).mono ?_
      rintro e w' ⟨a', c', rfl, o, f⟩
      exact ⟨a', c', rfl, o.mono fun k _ h => h.elim (fun h => h.elim) .inr, f.mono fun k _ h => h.elim⟩
  · obtain rfl : i = n := by omega
    rw [List.take_of_length_le (by omega), List.drop_of_length_le (by omega)]
    exact insEndL_ok h hg (by omega) hb
end Go.Proofs.YtgpdpalhkkjmiaaGreatDoor

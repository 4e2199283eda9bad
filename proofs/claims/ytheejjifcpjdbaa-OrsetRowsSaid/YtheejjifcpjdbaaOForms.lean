/- tattlelaw9.OrsetForms answers true, for every input. -/
import Derived.Test.YtheejjifcpjdbaaAwake9
import Derived.Test.YtheejjifcpjdbaaTxt
namespace Go.Proofs.Ytheejjifcpjdbaa
set_option linter.unusedVariables false
set_option linter.unusedSimpArgs false
open Go.RowKit Go.Lib Go.Tt
/-- The i-th dot. -/
def dt9 (i : Nat) : Dt := (((i % 3 : Nat) : Int), ((1 + i / 3 : Nat) : Int))
set_option maxRecDepth 100000 in
theorem dot9_ok (i : Nat) (hi : i ≤ 1000) (w : World) : Calls Try.prog 56 #[.int .i64 i] w fun e w' => e = .returned (.agg #[.int .i64 (dt9 i).1, .int .i64 (dt9 i).2]) ∧ Frm No w w' := by
  have e1 : (dt9 i).1 = (i : Int) % 3 := by simp [dt9]
  have e2 : (dt9 i).2 = 1 + (i : Int) / 3 := by simp [dt9]
  rw [e1, e2]
  clear e1 e2
  go_enter Try.func56, Try.ntmps56
  go_wp2
  refine bodyPost_ret (v := .agg #[.int .i64 ((i : Int) % 3), .int .i64 (1 + (i : Int) / 3)]) (by simp [results, Try.results56, go_sem, *]) rfl ?_
  exact ⟨rfl, (Frm.refl No w).al _⟩
theorem dot9_3 (w : World) : Calls Try.prog 56 #[.int .i64 3] w fun e w' => e = .returned (.agg #[.int .i64 0, .int .i64 2]) ∧ Frm No w w' := dot9_ok 3 (by decide) w
theorem dot9_4 (w : World) : Calls Try.prog 56 #[.int .i64 4] w fun e w' => e = .returned (.agg #[.int .i64 1, .int .i64 2]) ∧ Frm No w w' := dot9_ok 4 (by decide) w
/-- The empty cell is like itself. -/
theorem zsame (w : World) : Calls Try.prog 49 #[.agg #[.int .i64 0, .bool false, .int .i64 0, .int .i64 0, .string ⟨#[]⟩, .int .i64 0, .int .i64 0, .slice none 0 0, .slice none 0 0, .slice none 0 0], .agg #[.int .i64 0, .bool false, .int .i64 0, .int .i64 0, .string ⟨#[]⟩, .int .i64 0, .int .i64 0, .slice none 0 0, .slice none 0 0, .slice none 0 0]] w fun e w' => e = .returned (.bool true) ∧ Frm No w w' :=
  sameCell_ok (c := ⟨0, false, (0, 0), ⟨#[]⟩, (0, 0), [], [], []⟩) ⟨RdS.nil _ _, RdS.nil _ _, RdS.nil _ _⟩ ⟨RdS.nil _ _, RdS.nil _ _, RdS.nil _ _⟩
def lf : List En := [(0, 2, ⟨#[97]⟩)]
/-- A cell of a kind that is none, with one entry. -/
def cellK (k : Int) : CellV := ⟨k, false, (0, 0), ⟨#[]⟩, (0, 0), lf, [], []⟩
set_option maxHeartbeats 2000000 in
set_option maxRecDepth 100000 in
theorem oforms_walk (which x : Int) (w : World) : Calls Try.prog 11 #[.int .i64 which, .int .i64 x] w fun e w' => e = .returned (.bool true) ∧ Below w.heap.size w w' := by
  obtain ⟨a, ha, a1⟩ := mask_nat 63 x _ (and_63 x)
  go_enter Try.func11, Try.ntmps11
  go_wp2_with (fail)
  refine (awake9_ok _).mono ?_
  rintro e w0 ⟨rfl, F0⟩
  go_wp2_with (fail)
  refine (dot9_3 _).mono ?_
  rintro e w1 ⟨rfl, fr1⟩
  have F1 := F0.trans fr1
  clear F0 fr1
  go_wp2_with (fail)
  refine (dot9_4 _).mono ?_
  rintro e w2 ⟨rfl, fr2⟩
  have B2 : w2.heap[w1.heap.size + 1]? = some (.cells #[.int .i64 2, .bool false, .int .i64 0, .int .i64 0, .string ⟨#[]⟩, .int .i64 0, .int .i64 0, .slice (some ⟨w1.heap.size, 0, none⟩) 1 1, .slice none 0 0, .slice none 0 0] 59 (0, 0)) := fr2.obj (al_at (by simp)) id
  have L2 := (RdS.litg w1 eEn (0, 2, ⟨#[97]⟩) 90 rfl).no (((Frm.refl No _).al (.cells #[.int .i64 2, .bool false, .int .i64 0, .int .i64 0, .string ⟨#[]⟩, .int .i64 0, .int .i64 0, .slice (some ⟨w1.heap.size, 0, none⟩) 1 1, .slice none 0 0, .slice none 0 0] 59 (0, 0))).trans fr2)
  have F2 := ((F1.al _).al _).trans fr2
  have n2 := lt_of_block B2
  clear fr2
  obtain ⟨q0, q1, q2, q3, q4, q5, q6, q7, q8, q9⟩ := obj10 B2
  go_wp2_with (fail)
  have R2 : CellR w2 (setC lf) (.slice (some ⟨w1.heap.size, 0, none⟩) 1 1) (.slice none 0 0) (.slice none 0 0) := ⟨L2, RdS.nil _ _, RdS.nil _ _⟩
  refine (set_put (R2.no ((Frm.refl No w2).al _)) (by decide) (1, 2) rfl ⟨#[98]⟩ (by decide) (by simp [lf]) 2 rfl).mono ?_
  rintro e w3 ⟨a3, m3, b3, d3, f3, g3, rfl, -, fr3⟩
  have D3 : w3.heap[w2.heap.size]? = some (.cells #[.int .i64 1, .int .i64 2] 61 (0, 0)) := fr3.obj (heap_alloc_new _ _) id
  have G := ((Frm.refl No w2).al (.cells #[.int .i64 1, .int .i64 2] 61 (0, 0))).trans fr3
  have B3 := G.obj B2 id
  have L3 := L2.no G
  have F3 := F2.trans G
  have n3 := lt_of_block B3
  have k3 := lt_of_block D3
  clear F2 fr3 L2 B2 R2 G q0 q1 q2 q3 q4 q5 q6 q7 q8 q9
  obtain ⟨q0, q1, q2, q3, q4, q5, q6, q7, q8, q9⟩ := obj10 B3
  go_wp2_with (fail)
  have RK : ∀ W, Frm No w3 W → CellR W (cellK (2 + (1 + (a : Int)))) (.slice (some ⟨w1.heap.size, 0, none⟩) 1 1) (.slice none 0 0) (.slice none 0 0) := fun W f => ⟨L3.no f, RdS.nil _ _, RdS.nil _ _⟩
  have hk : (cellK (2 + (1 + (a : Int)))).kind ≠ 2 := by show 2 + (1 + (a : Int)) ≠ 2; omega
  have RK := Lib.hid RK
  have HK := Lib.hid hk
  clear hk
  have hdb := drop_bad (RK.out _ (((Frm.refl No w3).al (.cells #[.int .i64 2, .bool false, .int .i64 0, .int .i64 0, .string ⟨#[]⟩, .int .i64 0, .int .i64 0, .slice a3 2 m3, .slice b3 0 d3, .slice f3 0 g3] 59 (0, 0))).al (.cells #[.int .i64 (2 + (1 + (a : Int))), .bool false, .int .i64 0, .int .i64 0, .string ⟨#[]⟩, .int .i64 0, .int .i64 0, .slice (some ⟨w1.heap.size, 0, none⟩) 1 1, .slice none 0 0, .slice none 0 0] 59 (0, 0)))) HK.out none 0 0
  refine hdb.mono ?_
  rintro e w4 ⟨rfl, fr4⟩
  have O4 : w4.heap[w3.heap.size + 1]? = some (.cells #[.int .i64 (2 + (1 + (a : Int))), .bool false, .int .i64 0, .int .i64 0, .string ⟨#[]⟩, .int .i64 0, .int .i64 0, .slice (some ⟨w1.heap.size, 0, none⟩) 1 1, .slice none 0 0, .slice none 0 0] 59 (0, 0)) := fr4.obj (al_at (by simp)) id
  have G4 := (((Frm.refl No w3).al _).al _).trans fr4
  have n4 := lt_of_block O4
  clear fr4 hdb q0 q1 q2 q3 q4 q5 q6 q7 q8 q9
  obtain ⟨q0, q1, q2, q3, q4, q5, q6, q7, q8, q9⟩ := obj10 O4
  unfold zval
  go_wp2_with (fail)
  have hvb := values_bad (RK.out _ (G4.al (.cells zlist.toArray 59 (0, 0)))) HK.out
  refine hvb.mono ?_
  rintro e w5 ⟨rfl, fr5⟩
  have O5 : w5.heap[w3.heap.size + 1]? = some (.cells #[.int .i64 (2 + (1 + (a : Int))), .bool false, .int .i64 0, .int .i64 0, .string ⟨#[]⟩, .int .i64 0, .int .i64 0, .slice (some ⟨w1.heap.size, 0, none⟩) 1 1, .slice none 0 0, .slice none 0 0] 59 (0, 0)) := fr5.obj (al_old O4) id
  have G5 := (G4.al _).trans fr5
  have n5 := lt_of_block O5
  clear fr5 hvb O4 G4 q0 q1 q2 q3 q4 q5 q6 q7 q8 q9
  obtain ⟨q0, q1, q2, q3, q4, q5, q6, q7, q8, q9⟩ := obj10 O5
  go_wp2_with (fail)
  have hdb := dots_bad (RK.out _ G5) HK.out ⟨#[97]⟩
  refine hdb.mono ?_
  rintro e w6 ⟨rfl, fr6⟩
  have G6 := G5.trans fr6
  have B6 := G6.obj B3 id
  have D6 := G6.obj D3 id
  have L6 := L3.no G6
  have F6 := F3.trans G6
  have n6 := lt_of_block B6
  have k6 := lt_of_block D6
  have n23 : w1.heap.size + 1 ≠ w2.heap.size := by omega
  clear fr6 hdb RK HK O5 G5 F3 B3 D3 G6 n3 k3 n4 n5 q0 q1 q2 q3 q4 q5 q6 q7 q8 q9
  have hle : w.heap.size ≤ w1.heap.size := F1.size
  obtain ⟨q0, q1, q2, q3, q4, q5, q6, q7, q8, q9⟩ := obj10 B6
  have z0 := obj_frz B6
  have d0 : w6.cell? ⟨w2.heap.size, 0, none⟩ = some (.int .i64 1) := obj_cell D6 0
  have d1 : w6.cell? ⟨w2.heap.size, 1, none⟩ = some (.int .i64 2) := obj_cell D6 1
  have y0 := obj_frz D6
  have hcs : (IntKind.u64.wrap which).tmod 6 = 0 ∨ (IntKind.u64.wrap which).tmod 6 = 1 ∨ (IntKind.u64.wrap which).tmod 6 = 2 ∨ (IntKind.u64.wrap which).tmod 6 = 3 ∨ (IntKind.u64.wrap which).tmod 6 = 4 ∨ (IntKind.u64.wrap which).tmod 6 = 5 := by
    have h : 0 ≤ IntKind.u64.wrap which := by rw [IntKind.wrap_u64]; omega
    rw [Int.tmod_eq_emod_of_nonneg h]; omega
  have hsk : ∀ k, sblk (.slice (some ⟨w1.heap.size, 0, none⟩) 1 1) = some k → k = w1.heap.size := fun k hk => (Option.some.inj hk).symm
  rcases hcs with hr | hr | hr | hr | hr | hr
  · go_wp2_with (fail)
    have S : Frm (fun k => w1.heap.size < k) w6 (w6.setCell ⟨w1.heap.size + 1, 0, none⟩ (.int .i64 (-(1 + (a : Int))))) := Frm.setCell w6 ⟨w1.heap.size + 1, 0, none⟩ (.int .i64 (-(1 + (a : Int)))) (by show w1.heap.size < w1.heap.size + 1; omega)
    have hR : CellR _ (cellK (-(1 + (a : Int)))) (.slice (some ⟨w1.heap.size, 0, none⟩) 1 1) (.slice none 0 0) (.slice none 0 0) := ⟨L6.frm S fun k hk (e : w1.heap.size < k) => by have := hsk k hk; omega, RdS.nil _ _, RdS.nil _ _⟩
    refine (put_bad hR (1, 2) ⟨#[98]⟩ (by decide) (.inl (by show -(1 + (a : Int)) ≠ 2; omega))).mono ?_
    rintro e w7 ⟨rfl, fr7⟩
    have F7 : Frm (fun k => w.heap.size ≤ k) w w7 := ((F6.mono fun _ _ h => h.elim).trans (S.mono fun k _ h => by omega)).then fr7 fun _ _ h => h.elim
    clear fr7
    unfold zval
    go_wp2_with (first | (go_at_call 23; refine (num_ok _ _).mono ?_; rintro e w' ⟨rfl, rfl⟩) | (go_at_call 49; refine (zsame _).mono ?_; rintro e w8 ⟨rfl, fr8⟩))
    go_ret
    exact ⟨rfl, ((F7.al _).then fr8 fun _ _ h => h.elim).below (fun k hk h => by omega) (Nat.le_refl _)⟩
  · go_wp2_with (fail)
    have S : Frm (fun k => w1.heap.size < k) w6 (w6.setCell ⟨w2.heap.size, 0, none⟩ (.int .i64 (15 + (1 + (a : Int))))) := Frm.setCell w6 ⟨w2.heap.size, 0, none⟩ (.int .i64 (15 + (1 + (a : Int)))) (by show w1.heap.size < w2.heap.size; omega)
    have hR : CellR _ (cellK (2)) (.slice (some ⟨w1.heap.size, 0, none⟩) 1 1) (.slice none 0 0) (.slice none 0 0) := ⟨L6.frm S fun k hk (e : w1.heap.size < k) => by have := hsk k hk; omega, RdS.nil _ _, RdS.nil _ _⟩
    refine (put_bad hR (15 + (1 + (a : Int)), 2) ⟨#[98]⟩ (by decide) (.inr (.inl (by unfold dotMay; exact decide_eq_false (by show ¬ (0 ≤ 15 + (1 + (a : Int)) ∧ 15 + (1 + (a : Int)) < 16 ∧ _); omega))))).mono ?_
    rintro e w7 ⟨rfl, fr7⟩
    have F7 : Frm (fun k => w.heap.size ≤ k) w w7 := ((F6.mono fun _ _ h => h.elim).trans (S.mono fun k _ h => by omega)).then fr7 fun _ _ h => h.elim
    clear fr7
    unfold zval
    go_wp2_with (first | (go_at_call 23; refine (num_ok _ _).mono ?_; rintro e w' ⟨rfl, rfl⟩) | (go_at_call 49; refine (zsame _).mono ?_; rintro e w8 ⟨rfl, fr8⟩))
    go_ret
    exact ⟨rfl, ((F7.al _).then fr8 fun _ _ h => h.elim).below (fun k hk h => by omega) (Nat.le_refl _)⟩
  · go_wp2_with (fail)
    have S : Frm (fun k => w1.heap.size < k) w6 (w6.setCell ⟨w2.heap.size, 1, none⟩ (.int .i64 (1 - (1 + (a : Int))))) := Frm.setCell w6 ⟨w2.heap.size, 1, none⟩ (.int .i64 (1 - (1 + (a : Int)))) (by show w1.heap.size < w2.heap.size; omega)
    have hR : CellR _ (cellK (2)) (.slice (some ⟨w1.heap.size, 0, none⟩) 1 1) (.slice none 0 0) (.slice none 0 0) := ⟨L6.frm S fun k hk (e : w1.heap.size < k) => by have := hsk k hk; omega, RdS.nil _ _, RdS.nil _ _⟩
    refine (put_bad hR (1, 1 - (1 + (a : Int))) ⟨#[98]⟩ (by decide) (.inr (.inl (by unfold dotMay; exact decide_eq_false (by show ¬ (_ ∧ _ ∧ 1 ≤ 1 - (1 + (a : Int)) ∧ _); omega))))).mono ?_
    rintro e w7 ⟨rfl, fr7⟩
    have F7 : Frm (fun k => w.heap.size ≤ k) w w7 := ((F6.mono fun _ _ h => h.elim).trans (S.mono fun k _ h => by omega)).then fr7 fun _ _ h => h.elim
    clear fr7
    unfold zval
    go_wp2_with (first | (go_at_call 23; refine (num_ok _ _).mono ?_; rintro e w' ⟨rfl, rfl⟩) | (go_at_call 49; refine (zsame _).mono ?_; rintro e w8 ⟨rfl, fr8⟩))
    go_ret
    exact ⟨rfl, ((F7.al _).then fr8 fun _ _ h => h.elim).below (fun k hk h => by omega) (Nat.le_refl _)⟩
  · go_wp2_with (fail)
    have S : Frm (fun k => w1.heap.size < k) w6 (w6.setCell ⟨w2.heap.size, 1, none⟩ (.int .i64 (1048575 + (1 + (a : Int))))) := Frm.setCell w6 ⟨w2.heap.size, 1, none⟩ (.int .i64 (1048575 + (1 + (a : Int)))) (by show w1.heap.size < w2.heap.size; omega)
    have hR : CellR _ (cellK (2)) (.slice (some ⟨w1.heap.size, 0, none⟩) 1 1) (.slice none 0 0) (.slice none 0 0) := ⟨L6.frm S fun k hk (e : w1.heap.size < k) => by have := hsk k hk; omega, RdS.nil _ _, RdS.nil _ _⟩
    refine (put_bad hR (1, 1048575 + (1 + (a : Int))) ⟨#[98]⟩ (by decide) (.inr (.inl (by unfold dotMay; exact decide_eq_false (by show ¬ (_ ∧ _ ∧ _ ∧ 1048575 + (1 + (a : Int)) ≤ 1048575); omega))))).mono ?_
    rintro e w7 ⟨rfl, fr7⟩
    have F7 : Frm (fun k => w.heap.size ≤ k) w w7 := ((F6.mono fun _ _ h => h.elim).trans (S.mono fun k _ h => by omega)).then fr7 fun _ _ h => h.elim
    clear fr7
    unfold zval
    go_wp2_with (first | (go_at_call 23; refine (num_ok _ _).mono ?_; rintro e w' ⟨rfl, rfl⟩) | (go_at_call 49; refine (zsame _).mono ?_; rintro e w8 ⟨rfl, fr8⟩))
    go_ret
    exact ⟨rfl, ((F7.al _).then fr8 fun _ _ h => h.elim).below (fun k hk h => by omega) (Nat.le_refl _)⟩
  · go_wp2_with (fail)
    refine (dot9_3 _).mono ?_
    rintro e v6 ⟨rfl, fv⟩
    have B7 := fv.obj B6 id
    have D7 := fv.obj D6 id
    have L7 := L6.no fv
    have G7 := F6.trans fv
    have n7 := lt_of_block B7
    have k7 := lt_of_block D7
    clear q0 q1 q2 q3 q4 q5 q6 q7 q8 q9 z0 d0 d1 y0 B6 D6 fv
    obtain ⟨q0, q1, q2, q3, q4, q5, q6, q7, q8, q9⟩ := obj10 B7
    have z0 := obj_frz B7
    have d0 : v6.cell? ⟨w2.heap.size, 0, none⟩ = some (.int .i64 1) := obj_cell D7 0
    have d1 : v6.cell? ⟨w2.heap.size, 1, none⟩ = some (.int .i64 2) := obj_cell D7 1
    have y0 := obj_frz D7
    go_wp2_with (fail)
    have S : Frm (fun k => w1.heap.size < k) v6 ((v6.setCell ⟨w2.heap.size, 0, none⟩ (.int .i64 0)).setCell ⟨w2.heap.size, 1, none⟩ (.int .i64 2)) := (Frm.setCell v6 ⟨w2.heap.size, 0, none⟩ (.int .i64 0) (by show w1.heap.size < w2.heap.size; omega)).trans (Frm.setCell _ ⟨w2.heap.size, 1, none⟩ (.int .i64 2) (by show w1.heap.size < w2.heap.size; omega))
    have hR : CellR _ (cellK 2) (.slice (some ⟨w1.heap.size, 0, none⟩) 1 1) (.slice none 0 0) (.slice none 0 0) := ⟨L7.frm S fun k hk (e : w1.heap.size < k) => by have := hsk k hk; omega, RdS.nil _ _, RdS.nil _ _⟩
    refine (put_bad hR (0, 2) ⟨#[98]⟩ (by decide) (.inr (.inr (.inr ⟨(0, 2, ⟨#[97]⟩), by simp [cellK, lf], rfl⟩)))).mono ?_
    rintro e w7 ⟨rfl, fr7⟩
    have F7 : Frm (fun k => w.heap.size ≤ k) w w7 := ((G7.mono fun _ _ h => h.elim).trans (S.mono fun k _ h => by omega)).then fr7 fun _ _ h => h.elim
    clear fr7
    unfold zval
    go_wp2_with (first | (go_at_call 23; refine (num_ok _ _).mono ?_; rintro e w' ⟨rfl, rfl⟩) | (go_at_call 49; refine (zsame _).mono ?_; rintro e w8 ⟨rfl, fr8⟩))
    go_ret
    exact ⟨rfl, ((F7.al _).then fr8 fun _ _ h => h.elim).below (fun k hk h => by omega) (Nat.le_refl _)⟩
  · go_wp2_with (at_make; refine wpList_mk1 _ rfl _ _ 47 rfl 5 (.int .u8 0) 1 Try.underlying47 i_u8 rfl _ _ _ _ (256 + (1 + a)) rfl rfl (by omega) (by omega) (by omega) (by unfold maxLen; omega) ?_)
    intro v6 o7 g7
    have fv := grown_no g7
    have c7 := conv_zeros o7
    have B7 := fv.obj B6 id
    have D7 := fv.obj D6 id
    have L7 := L6.no fv
    have G7 := F6.trans fv
    clear q0 q1 q2 q3 q4 q5 q6 q7 q8 q9 z0 d0 d1 y0 B6 D6 fv g7 o7
    obtain ⟨q0, q1, q2, q3, q4, q5, q6, q7, q8, q9⟩ := obj10 B7
    have d0 : v6.cell? ⟨w2.heap.size, 0, none⟩ = some (.int .i64 1) := obj_cell D7 0
    have d1 : v6.cell? ⟨w2.heap.size, 1, none⟩ = some (.int .i64 2) := obj_cell D7 1
    obtain ⟨Z, hZ, hz⟩ : ∃ Z : ByteArray, Hid (Z = ⟨(List.replicate (256 + (1 + a)) 0).toArray⟩) ∧ Z.size = 256 + (1 + a) := ⟨_, Lib.hid rfl, by simp [ByteArray.size]⟩
    rw [← hZ.out] at c7
    go_wp2_with (fail)
    have hR : CellR _ (cellK 2) (.slice (some ⟨w1.heap.size, 0, none⟩) 1 1) (.slice none 0 0) (.slice none 0 0) := ⟨L7, RdS.nil _ _, RdS.nil _ _⟩
    refine (put_bad hR (1, 2) Z (by rw [hz]; unfold maxLen; omega) (.inr (.inr (.inl (by omega))))).mono ?_
    rintro e w7 ⟨rfl, fr7⟩
    have F7 : Frm (fun k => w.heap.size ≤ k) w w7 := (G7.trans fr7).mono fun _ _ h => h.elim
    clear fr7
    unfold zval
    go_wp2_with (first | (go_at_call 23; refine (num_ok _ _).mono ?_; rintro e w' ⟨rfl, rfl⟩) | (go_at_call 49; refine (zsame _).mono ?_; rintro e w8 ⟨rfl, fr8⟩))
    go_ret
    exact ⟨rfl, ((F7.al _).then fr8 fun _ _ h => h.elim).below (fun k hk h => by omega) (Nat.le_refl _)⟩
theorem oforms_row (w : World) (which : Int) (_ : (Lit.int .i64 which).wf = true) (x : Int) (_ : (Lit.int .i64 x).wf = true) : Calls Try.prog 11 #[.int .i64 which, .int .i64 x] w fun e w' => e = .returned (.bool true) ∧ Below w.heap.size w w' := oforms_walk which x w
end Go.Proofs.Ytheejjifcpjdbaa

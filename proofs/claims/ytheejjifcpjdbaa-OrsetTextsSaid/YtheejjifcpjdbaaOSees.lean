/- tattlelaw9.OrsetSees answers true, for every input. -/
import Derived.Test.YtheejjifcpjdbaaLaw9b
import Derived.Test.YtheejjifcpjdbaaPlan4
namespace Go.Proofs.Ytheejjifcpjdbaa
set_option linter.unusedVariables false
set_option linter.unusedSimpArgs false
open Go.RowKit Go.Lib Go.Tt
theorem set_one (a : Option Addr) (n c : Nat) (b : Option Addr) (d : Nat) (f : Option Addr) (g : Nat) : ∀ u ∈ ([.int .i64 2, .bool false, .int .i64 0, .int .i64 0, .string ⟨#[]⟩, .int .i64 0, .int .i64 0, .slice a n c, .slice b 0 d, .slice f 0 g] : List Value), u.oneCell' = true := by
  intro u hu
  simp only [List.mem_cons, List.not_mem_nil, or_false] at hu
  rcases hu with rfl | rfl | rfl | rfl | rfl | rfl | rfl | rfl | rfl | rfl <;> rfl
theorem CellO.no {w w' : World} {F : Nat → Prop} {c : CellV} {ve vl vs : Value} (h : CellO w F c ve vl vs) (f : Frm No w w') : CellO w' F c ve vl vs := h.frm f fun _ _ h => h
set_option maxHeartbeats 4000000 in
set_option maxRecDepth 100000 in
theorem osees_walk (v : ByteArray) (hvm : v.size ≤ maxLen) (many : Int) (again : Bool) (w : World) : Calls Try.prog 10 #[.string v, .int .i64 many, .bool again] w fun e w' => e = .returned (.bool true) ∧ Below w.heap.size w w' := by
  unfold maxLen at hvm
  obtain ⟨m, hm, m1⟩ := mask_nat 7 many _ (and_7 many)
  go_enter Try.func10, Try.ntmps10
  go_wp2_with (fail)
  refine (awake9_ok _).mono ?_
  rintro e w0 ⟨rfl, F0⟩
  have hle : w.heap.size ≤ w0.heap.size := F0.size
  by_cases hv : v.size ≤ 256
  case neg =>
    have hv' : (256 : Int) < v.size := by omega
    go_wp2
    go_ret
    exact ⟨rfl, F0.below (fun _ _ h => h) (Nat.le_refl _)⟩
  have hv' : ¬ (256 : Int) < v.size := by omega
  go_wp2
  go_loopg [9] (1 + m + 1) (fun g iv wr => ∃ (i : Nat) (a : Option Addr) (c : Nat) (b : Option Addr) (d : Nat) (f : Option Addr) (h : Nat), iv = .int .i64 i ∧ i ≤ 1 + m ∧ g = 1 + m - i + 1 ∧
    wr.heap[w0.heap.size]? = some (.cells #[.int .i64 2, .bool false, .int .i64 0, .int .i64 0, .string ⟨#[]⟩, .int .i64 0, .int .i64 0, .slice a i c, .slice b 0 d, .slice f 0 h] 59 (0, 0)) ∧ CellO wr (fun k => w0.heap.size < k) (setC (addL (fun _ => v) i)) (.slice a i c) (.slice b 0 d) (.slice f 0 h) ∧ Frm (fun k => w0.heap.size ≤ k) w0 wr)
  case atStart => exact ⟨0, none, 0, none, 0, none, 0, rfl, Nat.zero_le _, by omega, heap_alloc_new w0 _, ⟨Ow.nil _ _ _ _ _, Ow.nil _ _ _ _ _, Ow.nil _ _ _ _ _⟩, (Frm.refl _ w0).al _⟩
  case round =>
    obtain ⟨i, a, c, b, d, f, h, rfl, hi, hg, B, O, FR⟩ := hrel
    have hG := Lib.hid hg
    have hbw := lt_of_block B
    clear hg
    obtain ⟨q0, q1, q2, q3, q4, q5, q6, q7, q8, q9⟩ := obj10 B
    by_cases hlt : i < 1 + m
    · have hput := fun W (R : CellR W (setC (addL (fun _ => v) i)) (.slice a i c) (.slice b 0 d) (.slice f 0 h)) => set_put R (by rw [addL_len]; omega) (dt9 i) (dt9_may (by omega)) v hv addL_new (i + 1) (by rw [addL_len])
      have hOR := O.rd
      clear O
      go_wp2
      refine wp_region_fork (.seg [0, 1, 3] [] (.fork 2 [0] (.fork 4 [] (.seg [5, 6, 7, 8] [] (.seg [9] [] (.seg [10] [] .nil))) 8 [0] (.seg [4] [] (.seg [5, 6, 7, 9] [] (.seg [10] [] .nil)))) 8 [0] (.seg [2] [0] (.seg [4] [] (.seg [5, 6, 7, 9] [] (.seg [10] [] .nil)))))) 127 (by kernel_rfl) (by kernel_rfl) (by simp) ?_
      intro N hN
      simp only [wpST, wpSg, List.map_cons, List.map_nil, List.getD_cons_zero, List.getD_cons_succ]
      go_wp2_with (fail)
      refine ⟨?_, ?_⟩
      · go_wp2_with (fail)
        refine (dot9_ok i (by omega) _).mono ?_
        rintro e w1 ⟨rfl, fr1⟩
        have G1 : Frm No wr w1 := (Frm.drew No wr).trans fr1
        have B1 := G1.obj B id
        clear fr1 q0 q1 q2 q3 q4 q5 q6 q7 q8 q9
        obtain ⟨q0, q1, q2, q3, q4, q5, q6, q7, q8, q9⟩ := obj10 B1
        go_wp2_with (fail)
        refine ⟨again_cons (again_of rfl rfl ?_) again_nil, ?_⟩
        · go_simp
        refine ⟨?_, ?_⟩
        · go_wp2_with (fail)
          refine (hput _ (hOR.no G1)).mono ?_
          rintro e w2 ⟨a2, c2, b2, d2, f2, h2, rfl, o2, fr2⟩
          have G2 := G1.trans fr2
          have B2 := G2.obj B id
          have O2 := o2.mono (G := fun k => w0.heap.size < k) fun k _ hh => by rcases hh with hh | hh; exact hh.elim; have := hh.1; have := lt_of_block B1; omega
          clear fr2 o2 q0 q1 q2 q3 q4 q5 q6 q7 q8 q9
          go_wp2_with (first | (go_at_call 23; refine (num_ok _ _).mono ?_; rintro e w' ⟨rfl, rfl⟩) | (refine wpList_sto _ rfl (.tmp 7) (.tmp 46) 59 rfl (al_old B2) (by kernel_rfl) (by rfl) (set_one a2 (i + 1) c2 b2 d2 f2 h2) rfl rfl ?_))
          intro w3 B3 f3 z3
          have O3 := ((O2.no ((Frm.refl No w2).al _)).frm f3 fun k hk e => by omega)
          have G3 : Frm (fun k => w0.heap.size ≤ k) wr w3 := ((G2.al _).mono fun _ _ h => h.elim).trans (f3.mono fun k _ e => by omega)
          go_wp2
          go_roundg (1 + m - (i + 1) + 1)
          case measure => have := hG.out; omega
          case rel => exact ⟨i + 1, a2, c2, b2, d2, f2, h2, by go_num, by omega, rfl, B3, O3, FR.trans G3⟩
        · have t1 : w0.heap.size < w1.heap.size := lt_of_block B1
          go_wp2_with (fail)
          refine ⟨again_cons (again_of rfl rfl ?_) again_nil, ?_⟩
          · go_simp
          go_wp2_with (fail)
          have G1' : Frm No wr (w1.alloc (.cells zlist.toArray 59 (0, 0))) := G1.al _
          refine (hput _ (hOR.no G1')).mono ?_
          rintro e w2 ⟨a2, c2, b2, d2, f2, h2, rfl, o2, fr2⟩
          have G2 := G1'.trans fr2
          have B2 := G2.obj B id
          have T2 : w2.heap[w1.heap.size]? = some (.cells zlist.toArray 59 (0, 0)) := fr2.obj (heap_alloc_new w1 _) id
          have O2 := o2.mono (G := fun k => w1.heap.size < k) fun k _ hh => by rcases hh with hh | hh; exact hh.elim; have := hh.1; simp at this; omega
          clear fr2 o2 q0 q1 q2 q3 q4 q5 q6 q7 q8 q9
          go_wp2_with ((refine wpList_sto _ rfl (.tmp 10) (.tmp 41) 59 rfl T2 (by kernel_rfl) (by rfl) (set_one a2 (i + 1) c2 b2 d2 f2 h2) rfl rfl ?_))
          intro w4 T4 f4 z4
          have B4 := f4.obj B2 (by omega)
          obtain ⟨q0, q1, q2, q3, q4, q5, q6, q7, q8, q9⟩ := obj10 T4
          go_wp2_with (first | (go_at_call 23; refine (num_ok _ _).mono ?_; rintro e w' ⟨rfl, rfl⟩) | (refine wpList_sto _ rfl (.tmp 7) (.tmp 46) 59 rfl B4 (by kernel_rfl) (by rfl) (set_one a2 (i + 1) c2 b2 d2 f2 h2) rfl rfl ?_))
          intro w3 B3 f3 z3
          clear q0 q1 q2 q3 q4 q5 q6 q7 q8 q9
          have O3 := ((O2.frm f4 fun k hk e => by omega).mono (G := fun k => w0.heap.size < k) fun k _ hh => by omega).frm f3 fun k hk e => by omega
          have G3 : Frm (fun k => w0.heap.size ≤ k) wr w3 := ((G2.mono fun _ _ h => h.elim).trans (f4.mono fun k _ e => by omega)).trans (f3.mono fun k _ e => by omega)
          go_wp2
          go_roundg (1 + m - (i + 1) + 1)
          case measure => have := hG.out; omega
          case rel => exact ⟨i + 1, a2, c2, b2, d2, f2, h2, by go_num, by omega, rfl, B3, O3, FR.trans G3⟩
      · go_wp2_with (fail)
        refine ⟨again_cons (again_of rfl rfl ?_) again_nil, ?_⟩
        · go_simp
        go_wp2_with (fail)
        refine (dot9_ok i (by omega) _).mono ?_
        rintro e w1 ⟨rfl, fr1⟩
        have G1 : Frm No wr w1 := ((Frm.refl No wr).al _).trans ((Frm.drew No _).trans fr1)
        have B1 := G1.obj B id
        have T1 : w1.heap[wr.heap.size]? = some (.cells zlist.toArray 59 (0, 0)) := fr1.obj (heap_alloc_new wr _) id
        clear fr1 q0 q1 q2 q3 q4 q5 q6 q7 q8 q9
        obtain ⟨q0, q1, q2, q3, q4, q5, q6, q7, q8, q9⟩ := obj10 B1
        go_wp2_with (fail)
        refine ⟨again_cons (again_of rfl rfl ?_) again_nil, ?_⟩
        · go_simp
        go_wp2_with (fail)
        refine (hput _ (hOR.no G1)).mono ?_
        rintro e w2 ⟨a2, c2, b2, d2, f2, h2, rfl, o2, fr2⟩
        have G2 := G1.trans fr2
        have B2 := G2.obj B id
        have T2 := fr2.obj T1 id
        have O2 := o2.mono (G := fun k => wr.heap.size < k) fun k _ hh => by rcases hh with hh | hh; exact hh.elim; have := hh.1; have := lt_of_block T1; omega
        have t1 : w0.heap.size < wr.heap.size := hbw
        clear fr2 o2 q0 q1 q2 q3 q4 q5 q6 q7 q8 q9
        go_wp2_with ((refine wpList_sto _ rfl (.tmp 10) (.tmp 41) 59 rfl T2 (by kernel_rfl) (by rfl) (set_one a2 (i + 1) c2 b2 d2 f2 h2) rfl rfl ?_))
        intro w4 T4 f4 z4
        have B4 := f4.obj B2 (by omega)
        obtain ⟨q0, q1, q2, q3, q4, q5, q6, q7, q8, q9⟩ := obj10 T4
        go_wp2_with (first | (go_at_call 23; refine (num_ok _ _).mono ?_; rintro e w' ⟨rfl, rfl⟩) | (refine wpList_sto _ rfl (.tmp 7) (.tmp 46) 59 rfl B4 (by kernel_rfl) (by rfl) (set_one a2 (i + 1) c2 b2 d2 f2 h2) rfl rfl ?_))
        intro w3 B3 f3 z3
        clear q0 q1 q2 q3 q4 q5 q6 q7 q8 q9
        have O3 := ((O2.frm f4 fun k hk e => by omega).mono (G := fun k => w0.heap.size < k) fun k _ hh => by omega).frm f3 fun k hk e => by omega
        have G3 : Frm (fun k => w0.heap.size ≤ k) wr w3 := ((G2.mono fun _ _ h => h.elim).trans (f4.mono fun k _ e => by omega)).trans (f3.mono fun k _ e => by omega)
        go_wp2
        go_roundg (1 + m - (i + 1) + 1)
        case measure => have := hG.out; omega
        case rel => exact ⟨i + 1, a2, c2, b2, d2, f2, h2, by go_num, by omega, rfl, B3, O3, FR.trans G3⟩
    · have hii : ¬ ((i : Int) < 1 + (m : Int)) := by omega
      obtain rfl : i = 1 + m := by omega
      have hdk : ∀ W, Calls Try.prog 56 #[.int .i64 (1 + (m : Int))] W fun e w' => e = .returned (.agg #[.int .i64 (dt9 (1 + m)).1, .int .i64 (dt9 (1 + m)).2]) ∧ Frm No W w' := fun W => by
        have := dot9_ok (1 + m) (by omega) W
        rwa [show (((1 + m : Nat) : Int)) = 1 + (m : Int) by omega] at this
      have hput := fun W (R : CellR W (setC (addL (fun _ => v) (1 + m))) (.slice a (1 + m) c) (.slice b 0 d) (.slice f 0 h)) => set_put R (by rw [addL_len]; omega) (dt9 (1 + m)) (dt9_may (by omega)) v hv addL_new (1 + m + 1) (by rw [addL_len])
      have hOR := O.rd
      clear O
      go_wp2_with (fail)
      refine (set_dots hOR (by rw [addL_len]; omega) v (1 + m) (by rw [dots_all fun _ _ => rfl, List.length_map, addL_len])).mono ?_
      rintro e w1 ⟨a1, c1, rfl, o1, fr1⟩
      rw [dots_all fun _ _ => rfl] at o1
      have DS1 := o1.rd
      have G1 : Frm No wr w1 := fr1
      have B1 := G1.obj B id
      have R1 := hOR.no G1
      have n1 : w0.heap.size < w1.heap.size := lt_of_block B1
      have F1 := FR.trans (G1.mono fun _ _ h => h.elim)
      clear fr1 o1 q0 q1 q2 q3 q4 q5 q6 q7 q8 q9
      obtain ⟨q0, q1, q2, q3, q4, q5, q6, q7, q8, q9⟩ := obj10 B1
      cases again with
      | false =>
        have BX : (w1.alloc (.cells #[.int .i64 2, .bool false, .int .i64 0, .int .i64 0, .string ⟨#[]⟩, .int .i64 0, .int .i64 0, .slice a (1 + m) c, .slice b 0 d, .slice f 0 h] 59 (0, 0))).heap[w1.heap.size]? = some (.cells #[.int .i64 2, .bool false, .int .i64 0, .int .i64 0, .string ⟨#[]⟩, .int .i64 0, .int .i64 0, .slice a (1 + m) c, .slice b 0 d, .slice f 0 h] 59 (0, 0)) := heap_alloc_new w1 _
        have RX := R1.no ((Frm.refl No w1).al (.cells #[.int .i64 2, .bool false, .int .i64 0, .int .i64 0, .string ⟨#[]⟩, .int .i64 0, .int .i64 0, .slice a (1 + m) c, .slice b 0 d, .slice f 0 h] 59 (0, 0)))
        have DX := DS1.no ((Frm.refl No w1).al (.cells #[.int .i64 2, .bool false, .int .i64 0, .int .i64 0, .string ⟨#[]⟩, .int .i64 0, .int .i64 0, .slice a (1 + m) c, .slice b 0 d, .slice f 0 h] 59 (0, 0)))
        have FX : Frm (fun k => w0.heap.size ≤ k) w0 (w1.alloc (.cells #[.int .i64 2, .bool false, .int .i64 0, .int .i64 0, .string ⟨#[]⟩, .int .i64 0, .int .i64 0, .slice a (1 + m) c, .slice b 0 d, .slice f 0 h] 59 (0, 0))) := F1.al _
        go_wp2_with (fail)
        refine (set_drop RX (by rw [addL_len]; omega) DX 0 (by rw [drop_all]; rfl)).mono ?_
        rintro e w5 ⟨a5, c5, b5, d5, f5, h5, rfl, o5, fr5⟩
        rw [drop_all] at o5
        have R5 := o5.rd
        have F5 := FX.trans (fr5.mono fun _ _ h => h.elim)
        clear fr5 o5 q0 q1 q2 q3 q4 q5 q6 q7 q8 q9
        go_wp2_with (fail)
        refine (set_values (R5.no ((Frm.refl No w5).al (.cells #[.int .i64 2, .bool false, .int .i64 0, .int .i64 0, .string ⟨#[]⟩, .int .i64 0, .int .i64 0, .slice a5 0 c5, .slice b5 0 d5, .slice f5 0 h5] 59 (0, 0)))) (by decide) 0 (by rw [vals_nil]; rfl)).mono ?_
        rintro e w6 ⟨a6, c6, rfl, o6, fr6⟩
        have G6 := ((Frm.refl No w5).al (.cells #[.int .i64 2, .bool false, .int .i64 0, .int .i64 0, .string ⟨#[]⟩, .int .i64 0, .int .i64 0, .slice a5 0 c5, .slice b5 0 d5, .slice f5 0 h5] 59 (0, 0))).trans fr6
        have Z6 := fr6.obj (heap_alloc_new w5 (.cells #[.int .i64 2, .bool false, .int .i64 0, .int .i64 0, .string ⟨#[]⟩, .int .i64 0, .int .i64 0, .slice a5 0 c5, .slice b5 0 d5, .slice f5 0 h5] 59 (0, 0))) id
        have F6 := F5.trans (G6.mono fun _ _ h => h.elim)
        have q7 := obj_cell Z6 7
        clear fr6 o6 G6 R5 F5
        go_wp2_with (go_at_call 23; refine (num_ok _ _).mono ?_; rintro e w' ⟨rfl, rfl⟩)
        go_ret
        exact ⟨rfl, (F0.then F6 fun k hk h => by omega).below (fun _ _ h => h) (Nat.le_refl _)⟩
      | true =>
        have X1 : (w1.alloc (.cells #[.int .i64 2, .bool false, .int .i64 0, .int .i64 0, .string ⟨#[]⟩, .int .i64 0, .int .i64 0, .slice a (1 + m) c, .slice b 0 d, .slice f 0 h] 59 (0, 0))).heap[w1.heap.size]? = some (.cells #[.int .i64 2, .bool false, .int .i64 0, .int .i64 0, .string ⟨#[]⟩, .int .i64 0, .int .i64 0, .slice a (1 + m) c, .slice b 0 d, .slice f 0 h] 59 (0, 0)) := heap_alloc_new w1 _
        go_wp2_with (fail)
        refine wp_region_fork (.seg [0, 1, 3] [] (.fork 2 [0] (.fork 4 [] (.seg [5, 6, 7, 8] [] (.seg [9] [] (.seg [10] [] .nil))) 8 [0] (.seg [4] [] (.seg [5, 6, 7, 9] [] (.seg [10] [] .nil)))) 8 [0] (.seg [2] [0] (.seg [4] [] (.seg [5, 6, 7, 9] [] (.seg [10] [] .nil)))))) 127 (by kernel_rfl) (by kernel_rfl) (by simp) ?_
        intro N hN
        simp only [wpST, wpSg, List.map_cons, List.map_nil, List.getD_cons_zero, List.getD_cons_succ]
        go_wp2_with (fail)
        refine ⟨?_, ?_⟩
        · go_wp2_with (fail)
          refine (hdk _).mono ?_
          rintro e w2 ⟨rfl, fr2⟩
          have G2 : Frm No w1 w2 := ((Frm.refl No w1).al _).trans ((Frm.drew No _).trans fr2)
          have B2 := G2.obj B1 id
          have X2 := fr2.obj X1 id
          clear fr2 q0 q1 q2 q3 q4 q5 q6 q7 q8 q9
          obtain ⟨q0, q1, q2, q3, q4, q5, q6, q7, q8, q9⟩ := obj10 B2
          have t1 : w0.heap.size < w2.heap.size := lt_of_block B2
          have t2 : w1.heap.size < w2.heap.size := lt_of_block X2
          go_wp2_with (fail)
          refine ⟨again_cons (again_of rfl rfl ?_) again_nil, ?_⟩
          · go_simp
          refine ⟨?_, ?_⟩
          · go_wp2_with (fail)
            refine (hput _ (R1.no G2)).mono ?_
            rintro e w3 ⟨a3, c3, b3, d3, f3, h3, rfl, o3, fr3⟩
            have G3 := G2.trans fr3
            have X3 := fr3.obj X2 id
            have D3 := DS1.no G3
            have O3 := o3.mono (G := fun k => w1.heap.size < k) fun k _ hh => by rcases hh with hh | hh; exact hh.elim; have := hh.1; omega
            have F3 := F1.trans (G3.mono fun _ _ h => h.elim)
            have n3 := lt_of_block X3
            clear fr3 o3 q0 q1 q2 q3 q4 q5 q6 q7 q8 q9
            go_wp2_with (first | (go_at_call 23; refine (num_ok _ _).mono ?_; rintro e w' ⟨rfl, rfl⟩) | (refine wpList_sto _ rfl (.tmp 14) (.tmp 66) 59 rfl (al_old X3) (by kernel_rfl) (by rfl) (set_one a3 (1 + m + 1) c3 b3 d3 f3 h3) rfl rfl ?_))
            intro w4 X4 f4 z4
            have R4 := ((O3.no ((Frm.refl No w3).al _)).frm f4 fun k hk e => by omega).rd
            have D4 := (D3.no ((Frm.refl No w3).al _)).frm f4 (fun k hk e => by have := DS1.blk_lt hk; omega)
            have F4 := (F3.al _).trans (f4.mono fun k _ e => by omega)
            obtain ⟨q0, q1, q2, q3, q4, q5, q6, q7, q8, q9⟩ := obj10 X4
            go_wp2_with (fail)
            refine (set_drop R4 (by rw [putEn_len, addL_len]; omega) D4 1 (by rw [drop_new addL_new]; rfl)).mono ?_
            rintro e w5 ⟨a5, c5, b5, d5, f5, h5, rfl, o5, fr5⟩
            rw [drop_new addL_new] at o5
            have R5 := o5.rd
            have F5 := F4.trans (fr5.mono fun _ _ h => h.elim)
            clear fr5 o5 q0 q1 q2 q3 q4 q5 q6 q7 q8 q9
            go_wp2_with (fail)
            refine (set_values (R5.no ((Frm.refl No w5).al (.cells #[.int .i64 2, .bool false, .int .i64 0, .int .i64 0, .string ⟨#[]⟩, .int .i64 0, .int .i64 0, .slice a5 1 c5, .slice b5 0 d5, .slice f5 0 h5] 59 (0, 0)))) (by show 1 ≤ 1000000; omega) 1 (by rw [vals_one]; rfl)).mono ?_
            rintro e w6 ⟨a6, c6, rfl, o6, fr6⟩
            rw [vals_one] at o6
            have V6 := o6.rd
            have G6 := ((Frm.refl No w5).al (.cells #[.int .i64 2, .bool false, .int .i64 0, .int .i64 0, .string ⟨#[]⟩, .int .i64 0, .int .i64 0, .slice a5 1 c5, .slice b5 0 d5, .slice f5 0 h5] 59 (0, 0))).trans fr6
            have Z6 := fr6.obj (heap_alloc_new w5 (.cells #[.int .i64 2, .bool false, .int .i64 0, .int .i64 0, .string ⟨#[]⟩, .int .i64 0, .int .i64 0, .slice a5 1 c5, .slice b5 0 d5, .slice f5 0 h5] 59 (0, 0))) id
            have E6 := R5.e.no G6
            have F6 := F5.trans (G6.mono fun _ _ h => h.elim)
            clear fr6 o6 G6 R5
            go_wp2_with (go_at_call 23; refine (num_ok _ _).mono ?_; rintro e w' ⟨rfl, rfl⟩)
            refine wp_region_plan [([0, 1, 2, 3, 4, 5, 6, 7, 8, 9, 10, 11, 12, 13, 14, 15, 16, 17], [15, 12]), ([18, 19, 20], [])] 127 (by kernel_rfl) (by kernel_rfl) (by simp) ?_
            intro N2 hN2
            simp only [wpSegs, List.map_cons, List.map_nil, List.getD_cons_zero, List.getD_cons_succ]
            go_wp2_with (fail)
            refine (sameTexts_ok (V6.no (((Frm.refl No w6).al _).dr 1)) (((RdS.litg w6 eStr v 9 rfl)).drew)).mono ?_
            rintro e w7 ⟨rfl, kk, hw⟩
            have G7 : Frm No w6 w7 := by rw [hw]; exact (((Frm.refl No w6).al _).dr 1).dr kk
            clear hw
            rw [decide_eq_true (rfl : ([v] : List ByteArray) = [v])]
            have Z7 := G7.obj Z6 id
            have E7 := E6.no G7
            have F7 := F6.trans (G7.mono fun _ _ h => h.elim)
            obtain ⟨bz, oz, rfl, hbz, hcz⟩ := E7.at (i := 0) (by show 0 < 1; omega)
            have z0 : w7.cell? ⟨bz, oz, none⟩ = some (.int .i64 (dt9 (1 + m)).1) := by have := hcz 0 _ rfl; rwa [Nat.zero_mul] at this
            have z1 : w7.cell? ⟨bz, oz + 1, none⟩ = some (.int .i64 (dt9 (1 + m)).2) := by have := hcz 1 _ rfl; rwa [Nat.zero_mul] at this
            have z2 : w7.cell? ⟨bz, oz + 2, none⟩ = some (.string v) := by have := hcz 2 _ rfl; rwa [Nat.zero_mul] at this
            have q7 := obj_cell Z7 7
            clear hcz Z6 E6 F6 V6 G7
            simp only [List.getElem?_toArray, List.getElem?_cons_succ, List.getElem?_cons_zero] at q7
            go_wp2_with (fail)
            refine (hdk _).mono ?_
            rintro e w8 ⟨rfl, fr8⟩
            have y7 := (fr8.cell (p := ⟨w5.heap.size, 7, none⟩) (lt_of_block Z7) id).trans q7
            have y0 := (fr8.cell (p := ⟨bz, oz, none⟩) hbz id).trans z0
            have y1 := (fr8.cell (p := ⟨bz, oz + 1, none⟩) hbz id).trans z1
            have F8 := F7.trans (fr8.mono fun _ _ h => h.elim)
            clear q7 z0 z1 z2 Z7 E7 F7 fr8
            go_wp2_with (fail)
            refine ⟨again_cons (again_of rfl rfl ?_) (again_cons (again_of rfl rfl ?_) again_nil), ?_⟩
            · go_simp
            · go_simp
            go_wp2
            go_ret
            exact ⟨rfl, (F0.then F8 fun k hk h => by omega).below (fun _ _ h => h) (Nat.le_refl _)⟩
          · go_wp2_with (fail)
            refine ⟨again_cons (again_of rfl rfl ?_) again_nil, ?_⟩
            · go_simp
            go_wp2_with (fail)
            have T2 : (w2.alloc (.cells zlist.toArray 59 (0, 0))).heap[w2.heap.size]? = some (.cells zlist.toArray 59 (0, 0)) := heap_alloc_new w2 _
            have G2' : Frm No w1 (w2.alloc (.cells zlist.toArray 59 (0, 0))) := G2.al _
            refine (hput _ (R1.no G2')).mono ?_
            rintro e w3 ⟨a3, c3, b3, d3, f3, h3, rfl, o3, fr3⟩
            have G3 := G2'.trans fr3
            have X3 := fr3.obj (al_old X2) id
            have T3 := fr3.obj T2 id
            have D3 := DS1.no G3
            have O3 := o3.mono (G := fun k => w2.heap.size < k) fun k _ hh => by rcases hh with hh | hh; exact hh.elim; have := hh.1; simp at this; omega
            have F3 := F1.trans (G3.mono fun _ _ h => h.elim)
            have n3 := lt_of_block X3
            clear fr3 o3 q0 q1 q2 q3 q4 q5 q6 q7 q8 q9
            go_wp2_with ((refine wpList_sto _ rfl (.tmp 15) (.tmp 61) 59 rfl T3 (by kernel_rfl) (by rfl) (set_one a3 (1 + m + 1) c3 b3 d3 f3 h3) rfl rfl ?_))
            intro w4 T4 f4 z4
            have X4 := f4.obj X3 (by omega)
            have O4 := O3.frm f4 fun k hk e => by omega
            have D4 := D3.frm f4 (fun k hk e => by have := DS1.blk_lt hk; omega)
            have F4 := F3.trans (f4.mono fun k _ e => by omega)
            obtain ⟨q0, q1, q2, q3, q4, q5, q6, q7, q8, q9⟩ := obj10 T4
            go_wp2_with (first | (go_at_call 23; refine (num_ok _ _).mono ?_; rintro e w' ⟨rfl, rfl⟩) | (refine wpList_sto _ rfl (.tmp 14) (.tmp 66) 59 rfl X4 (by kernel_rfl) (by rfl) (set_one a3 (1 + m + 1) c3 b3 d3 f3 h3) rfl rfl ?_))
            intro w9 X9 f9 z9
            have R9 := (O4.frm f9 fun k hk e => by omega).rd
            have D9 := D4.frm f9 (fun k hk e => by have := DS1.blk_lt hk; omega)
            have F9 := F4.trans (f9.mono fun k _ e => by omega)
            clear q0 q1 q2 q3 q4 q5 q6 q7 q8 q9
            obtain ⟨q0, q1, q2, q3, q4, q5, q6, q7, q8, q9⟩ := obj10 X9
            go_wp2_with (fail)
            refine (set_drop R9 (by rw [putEn_len, addL_len]; omega) D9 1 (by rw [drop_new addL_new]; rfl)).mono ?_
            rintro e w5 ⟨a5, c5, b5, d5, f5, h5, rfl, o5, fr5⟩
            rw [drop_new addL_new] at o5
            have R5 := o5.rd
            have F5 := F9.trans (fr5.mono fun _ _ h => h.elim)
            clear fr5 o5 q0 q1 q2 q3 q4 q5 q6 q7 q8 q9
            go_wp2_with (fail)
            refine (set_values (R5.no ((Frm.refl No w5).al (.cells #[.int .i64 2, .bool false, .int .i64 0, .int .i64 0, .string ⟨#[]⟩, .int .i64 0, .int .i64 0, .slice a5 1 c5, .slice b5 0 d5, .slice f5 0 h5] 59 (0, 0)))) (by show 1 ≤ 1000000; omega) 1 (by rw [vals_one]; rfl)).mono ?_
            rintro e w6 ⟨a6, c6, rfl, o6, fr6⟩
            rw [vals_one] at o6
            have V6 := o6.rd
            have G6 := ((Frm.refl No w5).al (.cells #[.int .i64 2, .bool false, .int .i64 0, .int .i64 0, .string ⟨#[]⟩, .int .i64 0, .int .i64 0, .slice a5 1 c5, .slice b5 0 d5, .slice f5 0 h5] 59 (0, 0))).trans fr6
            have Z6 := fr6.obj (heap_alloc_new w5 (.cells #[.int .i64 2, .bool false, .int .i64 0, .int .i64 0, .string ⟨#[]⟩, .int .i64 0, .int .i64 0, .slice a5 1 c5, .slice b5 0 d5, .slice f5 0 h5] 59 (0, 0))) id
            have E6 := R5.e.no G6
            have F6 := F5.trans (G6.mono fun _ _ h => h.elim)
            clear fr6 o6 G6 R5
            go_wp2_with (go_at_call 23; refine (num_ok _ _).mono ?_; rintro e w' ⟨rfl, rfl⟩)
            refine wp_region_plan [([0, 1, 2, 3, 4, 5, 6, 7, 8, 9, 10, 11, 12, 13, 14, 15, 16, 17], [15, 12]), ([18, 19, 20], [])] 127 (by kernel_rfl) (by kernel_rfl) (by simp) ?_
            intro N2 hN2
            simp only [wpSegs, List.map_cons, List.map_nil, List.getD_cons_zero, List.getD_cons_succ]
            go_wp2_with (fail)
            refine (sameTexts_ok (V6.no (((Frm.refl No w6).al _).dr 1)) (((RdS.litg w6 eStr v 9 rfl)).drew)).mono ?_
            rintro e w7 ⟨rfl, kk, hw⟩
            have G7 : Frm No w6 w7 := by rw [hw]; exact (((Frm.refl No w6).al _).dr 1).dr kk
            clear hw
            rw [decide_eq_true (rfl : ([v] : List ByteArray) = [v])]
            have Z7 := G7.obj Z6 id
            have E7 := E6.no G7
            have F7 := F6.trans (G7.mono fun _ _ h => h.elim)
            obtain ⟨bz, oz, rfl, hbz, hcz⟩ := E7.at (i := 0) (by show 0 < 1; omega)
            have z0 : w7.cell? ⟨bz, oz, none⟩ = some (.int .i64 (dt9 (1 + m)).1) := by have := hcz 0 _ rfl; rwa [Nat.zero_mul] at this
            have z1 : w7.cell? ⟨bz, oz + 1, none⟩ = some (.int .i64 (dt9 (1 + m)).2) := by have := hcz 1 _ rfl; rwa [Nat.zero_mul] at this
            have z2 : w7.cell? ⟨bz, oz + 2, none⟩ = some (.string v) := by have := hcz 2 _ rfl; rwa [Nat.zero_mul] at this
            have q7 := obj_cell Z7 7
            clear hcz Z6 E6 F6 V6 G7
            simp only [List.getElem?_toArray, List.getElem?_cons_succ, List.getElem?_cons_zero] at q7
            go_wp2_with (fail)
            refine (hdk _).mono ?_
            rintro e w8 ⟨rfl, fr8⟩
            have y7 := (fr8.cell (p := ⟨w5.heap.size, 7, none⟩) (lt_of_block Z7) id).trans q7
            have y0 := (fr8.cell (p := ⟨bz, oz, none⟩) hbz id).trans z0
            have y1 := (fr8.cell (p := ⟨bz, oz + 1, none⟩) hbz id).trans z1
            have F8 := F7.trans (fr8.mono fun _ _ h => h.elim)
            clear q7 z0 z1 z2 Z7 E7 F7 fr8
            go_wp2_with (fail)
            refine ⟨again_cons (again_of rfl rfl ?_) (again_cons (again_of rfl rfl ?_) again_nil), ?_⟩
            · go_simp
            · go_simp
            go_wp2
            go_ret
            exact ⟨rfl, (F0.then F8 fun k hk h => by omega).below (fun _ _ h => h) (Nat.le_refl _)⟩
        · have nX := lt_of_block X1
          have t1 : w0.heap.size < w1.heap.size := lt_of_block B1
          go_wp2_with (fail)
          refine ⟨again_cons (again_of rfl rfl ?_) again_nil, ?_⟩
          · go_simp
          go_wp2_with (fail)
          refine (hdk _).mono ?_
          rintro e w2 ⟨rfl, fr2⟩
          have G2 : Frm No w1 w2 := (((Frm.refl No w1).al _).al _).trans ((Frm.drew No _).trans fr2)
          have B2 := G2.obj B1 id
          have X2 := fr2.obj (al_old X1) id
          have T2 : w2.heap[w1.heap.size + 1]? = some (.cells zlist.toArray 59 (0, 0)) := fr2.obj (al_at (by simp)) id
          clear fr2 q0 q1 q2 q3 q4 q5 q6 q7 q8 q9
          obtain ⟨q0, q1, q2, q3, q4, q5, q6, q7, q8, q9⟩ := obj10 B2
          have t2 : w1.heap.size + 1 < w2.heap.size := lt_of_block T2
          go_wp2_with (fail)
          refine ⟨again_cons (again_of rfl rfl ?_) again_nil, ?_⟩
          · go_simp
          go_wp2_with (fail)
          refine (hput _ (R1.no G2)).mono ?_
          rintro e w3 ⟨a3, c3, b3, d3, f3, h3, rfl, o3, fr3⟩
          have G3 := G2.trans fr3
          have X3 := fr3.obj X2 id
          have T3 := fr3.obj T2 id
          have D3 := DS1.no G3
          have O3 := o3.mono (G := fun k => w1.heap.size + 1 < k) fun k _ hh => by rcases hh with hh | hh; exact hh.elim; have := hh.1; omega
          have F3 := F1.trans (G3.mono fun _ _ h => h.elim)
          have n3 := lt_of_block X3
          clear fr3 o3 q0 q1 q2 q3 q4 q5 q6 q7 q8 q9
          go_wp2_with ((refine wpList_sto _ rfl (.tmp 15) (.tmp 61) 59 rfl T3 (by kernel_rfl) (by rfl) (set_one a3 (1 + m + 1) c3 b3 d3 f3 h3) rfl rfl ?_))
          intro w4 T4 f4 z4
          have X4 := f4.obj X3 (by omega)
          have O4 := O3.frm f4 fun k hk e => by omega
          have D4 := D3.frm f4 (fun k hk e => by have := DS1.blk_lt hk; omega)
          have F4 := F3.trans (f4.mono fun k _ e => by omega)
          obtain ⟨q0, q1, q2, q3, q4, q5, q6, q7, q8, q9⟩ := obj10 T4
          go_wp2_with (first | (go_at_call 23; refine (num_ok _ _).mono ?_; rintro e w' ⟨rfl, rfl⟩) | (refine wpList_sto _ rfl (.tmp 14) (.tmp 66) 59 rfl X4 (by kernel_rfl) (by rfl) (set_one a3 (1 + m + 1) c3 b3 d3 f3 h3) rfl rfl ?_))
          intro w9 X9 f9 z9
          have R9 := (O4.frm f9 fun k hk e => by omega).rd
          have D9 := D4.frm f9 (fun k hk e => by have := DS1.blk_lt hk; omega)
          have F9 := F4.trans (f9.mono fun k _ e => by omega)
          clear q0 q1 q2 q3 q4 q5 q6 q7 q8 q9
          obtain ⟨q0, q1, q2, q3, q4, q5, q6, q7, q8, q9⟩ := obj10 X9
          go_wp2_with (fail)
          refine (set_drop R9 (by rw [putEn_len, addL_len]; omega) D9 1 (by rw [drop_new addL_new]; rfl)).mono ?_
          rintro e w5 ⟨a5, c5, b5, d5, f5, h5, rfl, o5, fr5⟩
          rw [drop_new addL_new] at o5
          have R5 := o5.rd
          have F5 := F9.trans (fr5.mono fun _ _ h => h.elim)
          clear fr5 o5 q0 q1 q2 q3 q4 q5 q6 q7 q8 q9
          go_wp2_with (fail)
          refine (set_values (R5.no ((Frm.refl No w5).al (.cells #[.int .i64 2, .bool false, .int .i64 0, .int .i64 0, .string ⟨#[]⟩, .int .i64 0, .int .i64 0, .slice a5 1 c5, .slice b5 0 d5, .slice f5 0 h5] 59 (0, 0)))) (by show 1 ≤ 1000000; omega) 1 (by rw [vals_one]; rfl)).mono ?_
          rintro e w6 ⟨a6, c6, rfl, o6, fr6⟩
          rw [vals_one] at o6
          have V6 := o6.rd
          have G6 := ((Frm.refl No w5).al (.cells #[.int .i64 2, .bool false, .int .i64 0, .int .i64 0, .string ⟨#[]⟩, .int .i64 0, .int .i64 0, .slice a5 1 c5, .slice b5 0 d5, .slice f5 0 h5] 59 (0, 0))).trans fr6
          have Z6 := fr6.obj (heap_alloc_new w5 (.cells #[.int .i64 2, .bool false, .int .i64 0, .int .i64 0, .string ⟨#[]⟩, .int .i64 0, .int .i64 0, .slice a5 1 c5, .slice b5 0 d5, .slice f5 0 h5] 59 (0, 0))) id
          have E6 := R5.e.no G6
          have F6 := F5.trans (G6.mono fun _ _ h => h.elim)
          clear fr6 o6 G6 R5
          go_wp2_with (go_at_call 23; refine (num_ok _ _).mono ?_; rintro e w' ⟨rfl, rfl⟩)
          refine wp_region_plan [([0, 1, 2, 3, 4, 5, 6, 7, 8, 9, 10, 11, 12, 13, 14, 15, 16, 17], [15, 12]), ([18, 19, 20], [])] 127 (by kernel_rfl) (by kernel_rfl) (by simp) ?_
          intro N2 hN2
          simp only [wpSegs, List.map_cons, List.map_nil, List.getD_cons_zero, List.getD_cons_succ]
          go_wp2_with (fail)
          refine (sameTexts_ok (V6.no (((Frm.refl No w6).al _).dr 1)) (((RdS.litg w6 eStr v 9 rfl)).drew)).mono ?_
          rintro e w7 ⟨rfl, kk, hw⟩
          have G7 : Frm No w6 w7 := by rw [hw]; exact (((Frm.refl No w6).al _).dr 1).dr kk
          clear hw
          rw [decide_eq_true (rfl : ([v] : List ByteArray) = [v])]
          have Z7 := G7.obj Z6 id
          have E7 := E6.no G7
          have F7 := F6.trans (G7.mono fun _ _ h => h.elim)
          obtain ⟨bz, oz, rfl, hbz, hcz⟩ := E7.at (i := 0) (by show 0 < 1; omega)
          have z0 : w7.cell? ⟨bz, oz, none⟩ = some (.int .i64 (dt9 (1 + m)).1) := by have := hcz 0 _ rfl; rwa [Nat.zero_mul] at this
          have z1 : w7.cell? ⟨bz, oz + 1, none⟩ = some (.int .i64 (dt9 (1 + m)).2) := by have := hcz 1 _ rfl; rwa [Nat.zero_mul] at this
          have z2 : w7.cell? ⟨bz, oz + 2, none⟩ = some (.string v) := by have := hcz 2 _ rfl; rwa [Nat.zero_mul] at this
          have q7 := obj_cell Z7 7
          clear hcz Z6 E6 F6 V6 G7
          simp only [List.getElem?_toArray, List.getElem?_cons_succ, List.getElem?_cons_zero] at q7
          go_wp2_with (fail)
          refine (hdk _).mono ?_
          rintro e w8 ⟨rfl, fr8⟩
          have y7 := (fr8.cell (p := ⟨w5.heap.size, 7, none⟩) (lt_of_block Z7) id).trans q7
          have y0 := (fr8.cell (p := ⟨bz, oz, none⟩) hbz id).trans z0
          have y1 := (fr8.cell (p := ⟨bz, oz + 1, none⟩) hbz id).trans z1
          have F8 := F7.trans (fr8.mono fun _ _ h => h.elim)
          clear q7 z0 z1 z2 Z7 E7 F7 fr8
          go_wp2_with (fail)
          refine ⟨again_cons (again_of rfl rfl ?_) (again_cons (again_of rfl rfl ?_) again_nil), ?_⟩
          · go_simp
          · go_simp
          go_wp2
          go_ret
          exact ⟨rfl, (F0.then F8 fun k hk h => by omega).below (fun _ _ h => h) (Nat.le_refl _)⟩
theorem osees_row (w : World) (v : ByteArray) (hv : v.size ≤ maxLen) (many : Int) (_ : (Lit.int .i64 many).wf = true) (again : Bool) : Calls Try.prog 10 #[.string v, .int .i64 many, .bool again] w fun e w' => e = .returned (.bool true) ∧ Below w.heap.size w w' := osees_walk v hv many again w
end Go.Proofs.Ytheejjifcpjdbaa

/- tattlelaw9.OrsetTexts answers true, for every input. -/
import Derived.Test.YtheejjifcpjdbaaOSees
namespace Go.Proofs.Ytheejjifcpjdbaa
set_option linter.unusedVariables false
set_option linter.unusedSimpArgs false
open Go.RowKit Go.Lib Go.Tt
theorem less_of {x y : ByteArray} (h : ltB x y) : Op.bytesLess x.toList y.toList = true := by
  rw [Go.Proofs.bytesLess_eq, ByteArray.toList_eq, ByteArray.toList_eq]
  exact decide_eq_true h
/-- How many dots put these values. -/
def sumD (S : List En) (m : List ByteArray) : Nat := (m.map fun x => (dotsOf S x).length).sum
theorem sumD_cons (S : List En) (x : ByteArray) (m : List ByteArray) : sumD S (x :: m) = (dotsOf S x).length + sumD S m := by simp [sumD]
theorem sumD_app (S : List En) (m k : List ByteArray) : sumD S (m ++ k) = sumD S m + sumD S k := by simp [sumD]
theorem dotsOf_cons (e : En) (S : List En) (x : ByteArray) : (dotsOf (e :: S) x).length = (dotsOf S x).length + if e.2.2 = x then 1 else 0 := by
  unfold dotsOf
  rw [List.length_map, List.length_map, List.filter_cons]
  by_cases h : e.2.2 = x
  · rw [if_pos (by simpa using h), if_pos h]; rfl
  · rw [if_neg (by simpa using h), if_neg h]; rfl
theorem sumD_none {e : En} {S : List En} : ∀ {m : List ByteArray}, (∀ x ∈ m, e.2.2 ≠ x) → sumD (e :: S) m = sumD S m
  | [], _ => rfl
  | x :: m, h => by
    rw [sumD_cons, sumD_cons, dotsOf_cons, if_neg (h x List.mem_cons_self), sumD_none fun y hy => h y (List.mem_cons_of_mem _ hy)]; rfl
theorem sumD_one {e : En} {S : List En} : ∀ {m : List ByteArray}, m.Pairwise ltB → e.2.2 ∈ m → sumD (e :: S) m = sumD S m + 1
  | [], _, h => by simp at h
  | x :: m, hp, h => by
    obtain ⟨h1, h2⟩ := List.pairwise_cons.1 hp
    rw [sumD_cons, sumD_cons, dotsOf_cons]
    by_cases hx : e.2.2 = x
    · rw [if_pos hx, sumD_none fun y hy he => by
        have := h1 y hy
        rw [← he, hx] at this
        exact ltB_irrefl _ this]
      omega
    · rw [if_neg hx, sumD_one h2 ((List.mem_cons.1 h).resolve_left hx)]
      omega
theorem sumD_all {m : List ByteArray} (hm : m.Pairwise ltB) : ∀ {S : List En}, (∀ e ∈ S, e.2.2 ∈ m) → sumD S m = S.length
  | [], _ => by
    have : ∀ k : List ByteArray, sumD [] k = 0 := fun k => by
      induction k with
      | nil => rfl
      | cons x k ih => rw [sumD_cons, ih]; rfl
    exact this m
  | e :: S, h => by rw [sumD_one hm (h e List.mem_cons_self), sumD_all hm fun x hx => h x (List.mem_cons_of_mem _ hx)]; rfl
theorem sumD_vals (S : List En) : sumD S (valsOf S) = S.length := sumD_all (valsOf_pw S) fun e he => mem_valsOf.2 ⟨e, he, rfl⟩
theorem sumD_step {S : List En} {m : List ByteArray} {i : Nat} {x : ByteArray} (h : i < m.length) (hx : Hid (x = m[i])) : sumD S (m.take (i + 1)) = sumD S (m.take i) + (dotsOf S x).length := by
  rw [List.take_succ_eq_append_getElem h, ← hx.out, sumD_app, sumD_cons]; rfl
theorem sumD_le (S : List En) (m : List ByteArray) (i : Nat) : sumD S (m.take i) ≤ sumD S m := by
  conv => rhs; rw [← List.take_append_drop i m, sumD_app]
  omega
theorem dots_pos {S : List En} {x : ByteArray} (h : x ∈ valsOf S) : 0 < (dotsOf S x).length := by
  obtain ⟨e, he, hx⟩ := mem_valsOf.1 h
  unfold dotsOf
  rw [List.length_map]
  exact List.length_pos_of_mem (List.mem_filter.2 ⟨he, decide_eq_true hx⟩)
theorem dots_zero {S : List En} {x : ByteArray} (h : ∀ e ∈ S, e.2.2 ≠ x) : dotsOf S x = [] := by
  unfold dotsOf
  rw [List.filter_eq_nil_iff.2 fun e he => by simpa using h e he]
  rfl
/-- A reading that is not wanted. -/
theorem again_not {P : Program} {ops : Array Oper} {k : Nat} {o : Oper} {a : Act} {w : World} (hk : ops[k]? = some o) (h : Region.wanted o (yielded ops a.tmps) = false) : Again P ops k a w := by
  intro o' d' hk' _ hw
  rw [hk] at hk'
  obtain rfl := Option.some.inj hk'
  rw [h] at hw
  cases hw
set_option maxHeartbeats 4000000 in
set_option maxRecDepth 100000 in
theorem otexts_walk (w : World) {a0 : Option Addr} {n0 c0 : Nat} {L : List ByteArray} (hL : RdS w eStr (.slice a0 n0 c0) L) (hLm : ∀ x ∈ L, x.size ≤ maxLen) : Calls Try.prog 12 #[.slice a0 n0 c0] w fun e w' => e = .returned (.bool true) ∧ Below w.heap.size w w' := by
  obtain ⟨hn, hnc, hcm, -⟩ := hL.facts
  unfold maxLen at hcm hLm
  have HN := Lib.hid hn
  have HLM := Lib.hid hLm
  obtain ⟨fT, hfT⟩ : ∃ fT : Nat → ByteArray, Hid (fT = fun i => L.getD i ⟨#[]⟩) := ⟨_, Lib.hid rfl⟩
  clear hn hLm
  go_enter Try.func12, Try.ntmps12
  go_wp2_with (fail)
  refine (awake9_ok _).mono ?_
  rintro e w0 ⟨rfl, F0⟩
  have hle : w.heap.size ≤ w0.heap.size := F0.size
  have hL0 := hL.no F0
  clear hL
  go_wp2
  go_loopg [4, 5] (n0 + 1) (fun g kv iv wr => ∃ (i : Nat) (a : Option Addr) (c : Nat) (b : Option Addr) (d : Nat) (f : Option Addr) (h : Nat), kv = .int .i64 i ∧ iv = .int .i64 i ∧ i ≤ n0 ∧ i ≤ 20 ∧ g = n0 - i + 1 ∧ (∀ j, j < i → (fT j).size ≤ 256) ∧
    wr.heap[w0.heap.size]? = some (.cells #[.int .i64 2, .bool false, .int .i64 0, .int .i64 0, .string ⟨#[]⟩, .int .i64 0, .int .i64 0, .slice a i c, .slice b 0 d, .slice f 0 h] 59 (0, 0)) ∧ CellO wr (fun k => w0.heap.size < k) (setC (addL fT i)) (.slice a i c) (.slice b 0 d) (.slice f 0 h) ∧ Frm (fun k => w0.heap.size ≤ k) w0 wr)
  case atStart => exact ⟨0, none, 0, none, 0, none, 0, rfl, rfl, Nat.zero_le _, by omega, by omega, fun j h => by omega, heap_alloc_new w0 _, ⟨Ow.nil _ _ _ _ _, Ow.nil _ _ _ _ _, Ow.nil _ _ _ _ _⟩, (Frm.refl _ w0).al _⟩
  case round =>
    obtain ⟨i, a, c, b, d, f, h, rfl, rfl, hi, hi20, hg, hsz, B, O, FR⟩ := hrel
    have hG := Lib.hid hg
    have HSZ := Lib.hid hsz
    have hbw := lt_of_block B
    clear hg hsz
    obtain ⟨q0, q1, q2, q3, q4, q5, q6, q7, q8, q9⟩ := obj10 B
    by_cases hlt : i < n0 ∧ i < 20
    · obtain ⟨hlt, hlt20⟩ := hlt
      have l1 : i < L.length := by rw [← HN.out]; exact hlt
      obtain ⟨bl, ol, rfl, hbl, hcl⟩ := (hL0).at l1
      have e0 : w0.cell? ⟨bl, ol + i, none⟩ = some (.string L[i]) := by have := hcl 0 _ rfl; rwa [show i * eStr.k = i from Nat.mul_one i] at this
      have hblr : bl < wr.heap.size := Nat.lt_of_lt_of_le hbl FR.size
      have e1 : wr.cell? ⟨bl, ol + i, none⟩ = some (.string L[i]) := by rw [FR.cell (p := ⟨bl, ol + i, none⟩) hbl (by show ¬ w0.heap.size ≤ bl; omega)]; exact e0
      obtain ⟨x, hx⟩ : ∃ x, Hid (x = L[i]) := ⟨_, Lib.hid rfl⟩
      rw [← hx.out] at e1
      have hxf : fT i = x := by rw [hfT.out, hx.out]; simp [List.getD, l1]
      have hxm : x.size ≤ 2 ^ 63 - 1 := by rw [hx.out]; exact HLM.out _ (List.getElem_mem l1)
      have HXF := Lib.hid hxf
      have i1 : (i : Int) < n0 := by omega
      have i2 : (i : Int) < 20 := by omega
      have hne : bl ≠ w0.heap.size := by omega
      clear e0 hcl hxf
      by_cases hv : x.size ≤ 256
      case neg =>
        have hv' : (256 : Int) < x.size := by omega
        go_wp2
        go_ret
        exact ⟨rfl, (F0.then FR fun k hk h => by omega).below (fun _ _ h => h) (Nat.le_refl _)⟩
      have hv' : ¬ (256 : Int) < x.size := by omega
      have hput := fun W (R : CellR W (setC (addL fT i)) (.slice a i c) (.slice b 0 d) (.slice f 0 h)) => set_put R (by rw [addL_len]; omega) (dt9 i) (dt9_may (by omega)) x hv addL_new (i + 1) (by rw [addL_len])
      have hadd : putEn (addL fT i) (dt9 i) x = addL fT (i + 1) := by rw [addL, HXF.out]
      rw [hadd] at hput
      have hsz' : Hid (∀ j, j < i + 1 → (fT j).size ≤ 256) := Lib.hid fun j hj => by
        by_cases e : j = i
        · subst e; rw [HXF.out]; exact hv
        · exact HSZ.out j (by omega)
      have hOR := O.rd
      clear O hadd
      go_wp2
      refine wp_region_fork (.seg [0, 1, 3, 4, 5, 6] [] (.fork 2 [6, 0] (.fork 7 [] (.seg [8, 9, 10, 11] [] (.seg [12] [] (.seg [13] [] .nil))) 11 [6, 0] (.seg [7] [] (.seg [8, 9, 10, 12] [] (.seg [13] [] .nil)))) 11 [6, 0] (.seg [2] [6, 0] (.seg [7] [] (.seg [8, 9, 10, 12] [] (.seg [13] [] .nil)))))) 121 (by kernel_rfl) (by kernel_rfl) (by simp) ?_
      intro N hN
      simp only [wpST, wpSg, List.map_cons, List.map_nil, List.getD_cons_zero, List.getD_cons_succ]
      go_wp2_with (fail)
      refine ⟨?_, ?_⟩
      · go_wp2_with (fail)
        refine (dot9_ok i (by omega) _).mono ?_
        rintro e w1 ⟨rfl, fr1⟩
        have G1 : Frm No wr w1 := (Frm.drew No wr).trans fr1
        have B1 := G1.obj B id
        have x1 : w1.cell? ⟨bl, ol + i, none⟩ = some (.string x) := (G1.cell (p := ⟨bl, ol + i, none⟩) hblr id).trans e1
        clear fr1 q0 q1 q2 q3 q4 q5 q6 q7 q8 q9
        obtain ⟨q0, q1, q2, q3, q4, q5, q6, q7, q8, q9⟩ := obj10 B1
        have t1 : w0.heap.size < w1.heap.size := lt_of_block B1
        have t3 : bl < w1.heap.size := by omega
        go_wp2_with (fail)
        refine ⟨(again_cons (again_of rfl rfl ?_) (again_cons (again_of rfl rfl ?_) again_nil)), ?_⟩
        · go_simp
        · go_simp
        refine ⟨?_, ?_⟩
        · go_wp2_with (fail)
          refine (hput _ (hOR.no G1)).mono ?_
          rintro e w2 ⟨a2, c2, b2, d2, f2, h2, rfl, o2, fr2⟩
          have G2 := G1.trans fr2
          have B2 := G2.obj B id
          have O2 := o2.mono (G := fun k => w0.heap.size < k) fun k _ hh => by rcases hh with hh | hh; exact hh.elim; have := hh.1; omega
          clear fr2 o2 q0 q1 q2 q3 q4 q5 q6 q7 q8 q9
          go_wp2_with (first | (go_at_call 23; refine (num_ok _ _).mono ?_; rintro e w' ⟨rfl, rfl⟩) | (refine wpList_sto _ rfl (.tmp 3) (.tmp 48) 59 rfl (al_old B2) (by kernel_rfl) (by rfl) (set_one a2 (i + 1) c2 b2 d2 f2 h2) rfl rfl ?_))
          intro w3 B3 f3 z3
          have O3 := ((O2.no ((Frm.refl No w2).al _)).frm f3 fun k hk e => by omega)
          have G3 : Frm (fun k => w0.heap.size ≤ k) wr w3 := ((G2.al _).mono fun _ _ h => h.elim).trans (f3.mono fun k _ e => by omega)
          go_wp2
          go_roundg (n0 - (i + 1) + 1)
          case measure => have := hG.out; omega
          case rel => exact ⟨i + 1, a2, c2, b2, d2, f2, h2, by go_num, by go_num, by omega, by omega, rfl, hsz'.out, B3, O3, FR.trans G3⟩
        · go_wp2_with (fail)
          refine ⟨(again_cons (again_of rfl rfl ?_) (again_cons (again_of rfl rfl ?_) again_nil)), ?_⟩
          · go_simp
          · go_simp
          go_wp2_with (fail)
          have G1' : Frm No wr (w1.alloc (.cells zlist.toArray 59 (0, 0))) := G1.al _
          refine (hput _ (hOR.no G1')).mono ?_
          rintro e w2 ⟨a2, c2, b2, d2, f2, h2, rfl, o2, fr2⟩
          have G2 := G1'.trans fr2
          have B2 := G2.obj B id
          have T2 : w2.heap[w1.heap.size]? = some (.cells zlist.toArray 59 (0, 0)) := fr2.obj (heap_alloc_new w1 _) id
          have O2 := o2.mono (G := fun k => w1.heap.size < k) fun k _ hh => by rcases hh with hh | hh; exact hh.elim; have := hh.1; simp at this; omega
          clear fr2 o2 q0 q1 q2 q3 q4 q5 q6 q7 q8 q9
          go_wp2_with ((refine wpList_sto _ rfl (.tmp 6) (.tmp 43) 59 rfl T2 (by kernel_rfl) (by rfl) (set_one a2 (i + 1) c2 b2 d2 f2 h2) rfl rfl ?_))
          intro w4 T4 f4 z4
          have B4 := f4.obj B2 (by omega)
          obtain ⟨q0, q1, q2, q3, q4, q5, q6, q7, q8, q9⟩ := obj10 T4
          go_wp2_with (first | (go_at_call 23; refine (num_ok _ _).mono ?_; rintro e w' ⟨rfl, rfl⟩) | (refine wpList_sto _ rfl (.tmp 3) (.tmp 48) 59 rfl B4 (by kernel_rfl) (by rfl) (set_one a2 (i + 1) c2 b2 d2 f2 h2) rfl rfl ?_))
          intro w3 B3 f3 z3
          clear q0 q1 q2 q3 q4 q5 q6 q7 q8 q9
          have O3 := ((O2.frm f4 fun k hk e => by omega).mono (G := fun k => w0.heap.size < k) fun k _ hh => by omega).frm f3 fun k hk e => by omega
          have G3 : Frm (fun k => w0.heap.size ≤ k) wr w3 := ((G2.mono fun _ _ h => h.elim).trans (f4.mono fun k _ e => by omega)).trans (f3.mono fun k _ e => by omega)
          go_wp2
          go_roundg (n0 - (i + 1) + 1)
          case measure => have := hG.out; omega
          case rel => exact ⟨i + 1, a2, c2, b2, d2, f2, h2, by go_num, by go_num, by omega, by omega, rfl, hsz'.out, B3, O3, FR.trans G3⟩
      · go_wp2_with (fail)
        refine ⟨(again_cons (again_of rfl rfl ?_) (again_cons (again_of rfl rfl ?_) again_nil)), ?_⟩
        · go_simp
        · go_simp
        go_wp2_with (fail)
        refine (dot9_ok i (by omega) _).mono ?_
        rintro e w1 ⟨rfl, fr1⟩
        have G1 : Frm No wr w1 := ((Frm.refl No wr).al _).trans ((Frm.drew No _).trans fr1)
        have B1 := G1.obj B id
        have x1 : w1.cell? ⟨bl, ol + i, none⟩ = some (.string x) := (G1.cell (p := ⟨bl, ol + i, none⟩) hblr id).trans e1
        have T1 : w1.heap[wr.heap.size]? = some (.cells zlist.toArray 59 (0, 0)) := fr1.obj (heap_alloc_new wr _) id
        clear fr1 q0 q1 q2 q3 q4 q5 q6 q7 q8 q9
        obtain ⟨q0, q1, q2, q3, q4, q5, q6, q7, q8, q9⟩ := obj10 B1
        go_wp2_with (fail)
        refine ⟨(again_cons (again_of rfl rfl ?_) (again_cons (again_of rfl rfl ?_) again_nil)), ?_⟩
        · go_simp
        · go_simp
        go_wp2_with (fail)
        refine (hput _ (hOR.no G1)).mono ?_
        rintro e w2 ⟨a2, c2, b2, d2, f2, h2, rfl, o2, fr2⟩
        have G2 := G1.trans fr2
        have B2 := G2.obj B id
        have T2 := fr2.obj T1 id
        have O2 := o2.mono (G := fun k => wr.heap.size < k) fun k _ hh => by rcases hh with hh | hh; exact hh.elim; have := hh.1; have := lt_of_block T1; omega
        have t1 : w0.heap.size < wr.heap.size := hbw
        clear fr2 o2 q0 q1 q2 q3 q4 q5 q6 q7 q8 q9
        go_wp2_with ((refine wpList_sto _ rfl (.tmp 6) (.tmp 43) 59 rfl T2 (by kernel_rfl) (by rfl) (set_one a2 (i + 1) c2 b2 d2 f2 h2) rfl rfl ?_))
        intro w4 T4 f4 z4
        have B4 := f4.obj B2 (by omega)
        obtain ⟨q0, q1, q2, q3, q4, q5, q6, q7, q8, q9⟩ := obj10 T4
        go_wp2_with (first | (go_at_call 23; refine (num_ok _ _).mono ?_; rintro e w' ⟨rfl, rfl⟩) | (refine wpList_sto _ rfl (.tmp 3) (.tmp 48) 59 rfl B4 (by kernel_rfl) (by rfl) (set_one a2 (i + 1) c2 b2 d2 f2 h2) rfl rfl ?_))
        intro w3 B3 f3 z3
        clear q0 q1 q2 q3 q4 q5 q6 q7 q8 q9
        have O3 := ((O2.frm f4 fun k hk e => by omega).mono (G := fun k => w0.heap.size < k) fun k _ hh => by omega).frm f3 fun k hk e => by omega
        have G3 : Frm (fun k => w0.heap.size ≤ k) wr w3 := ((G2.mono fun _ _ h => h.elim).trans (f4.mono fun k _ e => by omega)).trans (f3.mono fun k _ e => by omega)
        go_wp2
        go_roundg (n0 - (i + 1) + 1)
        case measure => have := hG.out; omega
        case rel => exact ⟨i + 1, a2, c2, b2, d2, f2, h2, by go_num, by go_num, by omega, by omega, rfl, hsz'.out, B3, O3, FR.trans G3⟩
    · have hcond : ¬ ((i : Int) < n0 ∧ (i : Int) < 20) := by omega
      have hOR := O.rd
      have hval := set_values hOR (by rw [addL_len]; omega) (valsOf (addL fT i)).length rfl
      obtain ⟨S, hS⟩ : ∃ S, Hid (S = addL fT i) := ⟨_, Lib.hid rfl⟩
      have hSl : S.length = i := by rw [hS.out, addL_len]
      have hSz : ∀ e ∈ S, e.2.2.size ≤ 256 := by
        intro e he
        rw [hS.out] at he
        obtain ⟨j, hj, rfl⟩ := mem_addL.1 he
        exact HSZ.out j hj
      have HSL := Lib.hid hSl
      have HSZ2 := Lib.hid hSz
      rw [← hS.out] at hOR hval
      clear O hSl hSz HSZ
      obtain ⟨nw, hnw⟩ : ∃ nw, Hid (nw = (valsOf S).length) := ⟨_, Lib.hid rfl⟩
      rw [← hnw.out] at hval
      rcases (show ¬ (i : Int) < n0 ∨ ((i : Int) < n0 ∧ ¬ (i : Int) < 20) by omega) with hc1 | ⟨hc1, hc2⟩
      · go_wp2_with (fail)
        refine hval.mono ?_
        rintro e w1 ⟨a1, c1, rfl, o1, fr1⟩
        have V1 := o1.rd
        have B1 := fr1.obj B id
        have R1 := hOR.no fr1
        have F1 := FR.trans (fr1.mono fun _ _ h => h.elim)
        have hnm : nw ≤ 2 ^ 63 - 1 := by have := V1.facts.2; unfold maxLen at this; omega
        have hi63 : i ≤ 20 := hi20
        clear fr1 o1 hval hOR q0 q1 q2 q3 q4 q5 q6 q7 q8 q9
        go_wp2_with (go_at_call 23; refine (num_ok _ _).mono ?_; rintro e w' ⟨rfl, rfl⟩)
        go_loopg [4, 10] (nw + 1) (fun g kv jv wr => ∃ (j r : Nat), kv = .int .i64 r ∧ jv = .int .i64 j ∧ j ≤ nw ∧ g = nw - j + 1 ∧ r ≤ 20 ∧ r + sumD S ((valsOf S).take j) = i ∧ Frm No w1 wr)
        case atStart => exact ⟨0, i, rfl, rfl, Nat.zero_le _, by omega, hi20, by simp [sumD], Frm.refl _ _⟩
        case round =>
          obtain ⟨j, r, rfl, rfl, hj, hg2, hr20, hsum, fr⟩ := hrel
          have hG2 := Lib.hid hg2
          have HSUM := Lib.hid hsum
          have B2 := fr.obj B1 id
          have V2 := V1.no fr
          have R2 := R1.no fr
          clear hg2 hsum
          obtain ⟨q0, q1, q2, q3, q4, q5, q6, q7, q8, q9⟩ := obj10 B2
          have hb2 := lt_of_block B2
          by_cases hlt : j < nw
          · have l1 : j < (valsOf S).length := by rw [← hnw.out]; exact hlt
            obtain ⟨bl, ol, rfl, hbl, hcl⟩ := V2.at l1
            have e1 : wr.cell? ⟨bl, ol + j, none⟩ = some (.string (valsOf S)[j]) := by have := hcl 0 _ rfl; rwa [show j * eStr.k = j from Nat.mul_one j] at this
            obtain ⟨x, hx⟩ : ∃ x, Hid (x = (valsOf S)[j]) := ⟨_, Lib.hid rfl⟩
            rw [← hx.out] at e1
            obtain ⟨nd, hnd⟩ : ∃ nd, Hid (nd = (dotsOf S x).length) := ⟨_, Lib.hid rfl⟩
            have hpos : ¬ ((nd : Int) = 0) := by have := dots_pos (S := S) (x := x) (by rw [hx.out]; exact List.getElem_mem l1); have := hnd.out; omega
            have hstep := sumD_step (S := S) l1 hx
            have hle2 : nd ≤ r := by
              have h1 := sumD_le S (valsOf S) (j + 1)
              rw [sumD_vals, hstep] at h1
              have := HSUM.out; have := HSL.out; have := hnd.out; omega
            have HST := Lib.hid hstep
            have hdt := fun W (R : CellR W (setC S) (.slice a i c) (.slice b 0 d) (.slice f 0 h)) => set_dots R (by rw [HSL.out]; omega) x nd hnd.out
            clear hstep hcl
            have j1 : (j : Int) < nw := by omega
            cases j with
            | zero =>
              rw [Nat.add_zero] at e1
              go_wp2
              refine wp_region_plan [([0, 1, 2, 3, 4, 5, 6, 7, 8, 9, 10], [])] 121 (by kernel_rfl) (by kernel_rfl) (by simp) ?_
              intro N hN
              simp only [wpSegs, List.map_cons, List.map_nil, List.getD_cons_zero, List.getD_cons_succ]
              go_wp2_with (fail)
              refine (hdt _ (R2.no (Frm.drew No _))).mono ?_
              rintro e w2 ⟨a2, c2, rfl, o2, fr2⟩
              have G2 := fr.trans ((Frm.drew No _).trans fr2)
              clear o2 fr2 hdt q0 q1 q2 q3 q4 q5 q6 q7 q8 q9
              go_wp2
              refine wp_region_plan [([0, 1, 2, 3, 4, 5, 6, 7, 8, 9, 10, 11, 12, 13, 17, 18, 19, 20, 14], [20]), ([15, 16, 21, 22, 23], [])] 121 (by kernel_rfl) (by kernel_rfl) (by simp) ?_
              intro N2 hN2
              simp only [wpSegs, List.map_cons, List.map_nil, List.getD_cons_zero, List.getD_cons_succ]
              go_wp2_with (go_at_call 23; refine (num_ok _ _).mono ?_; rintro e w' ⟨rfl, rfl⟩)
              refine ⟨again_cons (again_not rfl ?_) again_nil, ?_⟩
              · rfl
              go_wp2
              go_roundg (nw - (0 + 1) + 1)
              case measure => have := hG2.out; omega
              case rel => exact ⟨0 + 1, r - nd, by congr 1; omega, by go_num, by omega, rfl, by omega, by rw [HST.out]; have := HSUM.out; have := hnd.out; omega, G2.trans (Frm.drew No _)⟩
            | succ jp =>
              have l0 : jp < (valsOf S).length := by omega
              obtain ⟨bl', ol', e', hbl', hcl'⟩ := V2.at l0
              simp only [Option.some.injEq, Addr.mk.injEq, and_true] at e'
              obtain ⟨rfl, rfl⟩ := e'
              have e2 : wr.cell? ⟨bl, ol + jp, none⟩ = some (.string (valsOf S)[jp]) := by have := hcl' 0 _ rfl; rwa [show jp * eStr.k = jp from Nat.mul_one jp] at this
              obtain ⟨y, hy⟩ : ∃ y, Hid (y = (valsOf S)[jp]) := ⟨_, Lib.hid rfl⟩
              rw [← hy.out] at e2
              have hless : Op.bytesLess y.toList x.toList = true := by
                refine less_of ?_
                rw [hy.out, hx.out]
                exact List.pairwise_iff_getElem.1 (valsOf_pw S) _ _ _ _ (Nat.lt_succ_self jp)
              clear hcl'
              go_wp2
              refine wp_region_plan [([0, 1, 2, 3, 4, 5, 6, 7, 8, 9, 10], [])] 121 (by kernel_rfl) (by kernel_rfl) (by simp) ?_
              intro N hN
              simp only [wpSegs, List.map_cons, List.map_nil, List.getD_cons_zero, List.getD_cons_succ]
              go_wp2_with (fail)
              refine (hdt _ (R2.no (Frm.drew No _))).mono ?_
              rintro e w2 ⟨a2, c2, rfl, o2, fr2⟩
              have G2 := fr.trans ((Frm.drew No _).trans fr2)
              have e1' : w2.cell? ⟨bl, ol + (jp + 1), none⟩ = some (.string x) := (((Frm.drew No _).trans fr2).cell (p := ⟨bl, ol + (jp + 1), none⟩) hbl id).trans e1
              have e2' : w2.cell? ⟨bl, ol + jp, none⟩ = some (.string y) := (((Frm.drew No _).trans fr2).cell (p := ⟨bl, ol + jp, none⟩) hbl id).trans e2
              have jj : ((jp + 1 : Nat) : Int) - 1 = (jp : Int) := by omega
              clear o2 fr2 hdt e1 e2 q0 q1 q2 q3 q4 q5 q6 q7 q8 q9
              go_wp2
              refine wp_region_plan [([0, 1, 2, 3, 4, 5, 6, 7, 8, 9, 10, 11, 12, 13, 17, 18, 19, 20, 14], [20]), ([15, 16, 21, 22, 23], [])] 121 (by kernel_rfl) (by kernel_rfl) (by simp) ?_
              intro N2 hN2
              simp only [wpSegs, List.map_cons, List.map_nil, List.getD_cons_zero, List.getD_cons_succ]
              go_wp2_with (go_at_call 23; refine (num_ok _ _).mono ?_; rintro e w' ⟨rfl, rfl⟩)
              refine ⟨(again_cons (again_of rfl rfl ?_) again_nil), ?_⟩
              · go_simp
              go_wp2
              go_roundg (nw - (jp + 1 + 1) + 1)
              case measure => have := hG2.out; omega
              case rel => exact ⟨jp + 1 + 1, r - nd, by congr 1; omega, by go_num, by omega, rfl, by omega, by rw [HST.out]; have := HSUM.out; have := hnd.out; omega, G2.trans (Frm.drew No _)⟩
          · have hjj : ¬ ((j : Int) < nw) := by omega
            have hr0 : r = 0 := by
              have h1 := HSUM.out
              rw [List.take_of_length_le (by have := hnw.out; omega), sumD_vals] at h1
              have := HSL.out; omega
            subst hr0
            obtain ⟨Z, hZ, hz⟩ : ∃ Z : ByteArray, Hid (Z = ⟨(List.replicate 257 0).toArray⟩) ∧ Z.size = 257 := ⟨_, Lib.hid rfl, by simp [ByteArray.size]⟩
            have hdz : dotsOf S Z = [] := dots_zero fun e he h => by have := HSZ2.out e he; rw [h] at this; omega
            have hdt := fun W (R : CellR W (setC S) (.slice a i c) (.slice b 0 d) (.slice f 0 h)) => set_dots R (by rw [HSL.out]; omega) Z 0 (by rw [hdz]; rfl)
            clear hdz
            go_wp2
            refine wp_region_plan [([0, 1], [0]), ([2], [0]), ([3, 4, 5, 6, 7, 8], [])] 121 (by kernel_rfl) (by kernel_rfl) (by simp) ?_
            intro N hN
            simp only [wpSegs, List.map_cons, List.map_nil, List.getD_cons_zero, List.getD_cons_succ]
            go_wp2_with (at_make; refine wpList_mk1 _ rfl _ _ 47 rfl 5 (.int .u8 0) 1 Try.underlying47 i_u8 rfl _ _ _ _ 257 rfl rfl rfl rfl (by decide) (by decide) ?_)
            intro w2 o2 g2
            have G2 : Frm No wr w2 := (Frm.drew No wr).trans (grown_no g2)
            have c2 := conv_zeros o2
            rw [← hZ.out] at c2
            have B3 := G2.obj B2 id
            clear q0 q1 q2 q3 q4 q5 q6 q7 q8 q9 o2 g2
            obtain ⟨q0, q1, q2, q3, q4, q5, q6, q7, q8, q9⟩ := obj10 B3
            go_wp2_with (fail)
            first | (refine ⟨(again_cons (again_of rfl rfl ?_) again_nil), ?_⟩) | (refine ⟨again_of rfl rfl ?_, ?_⟩)
            · go_simp
            go_wp2_with (fail)
            first | (refine ⟨(again_cons (again_of rfl rfl ?_) again_nil), ?_⟩) | (refine ⟨again_of rfl rfl ?_, ?_⟩)
            · go_simp
            go_wp2_with (fail)
            refine (hdt _ (R2.no G2)).mono ?_
            rintro e w3 ⟨a3, c3, rfl, o3, fr3⟩
            go_wp2_with (go_at_call 23; refine (num_ok _ _).mono ?_; rintro e w' ⟨rfl, rfl⟩)
            go_ret
            exact ⟨rfl, (F0.then (F1.trans ((fr.trans (G2.trans fr3)).mono fun _ _ h => h.elim)) fun k hk h => by omega).below (fun _ _ h => h) (Nat.le_refl _)⟩
      · go_wp2_with (fail)
        refine hval.mono ?_
        rintro e w1 ⟨a1, c1, rfl, o1, fr1⟩
        have V1 := o1.rd
        have B1 := fr1.obj B id
        have R1 := hOR.no fr1
        have F1 := FR.trans (fr1.mono fun _ _ h => h.elim)
        have hnm : nw ≤ 2 ^ 63 - 1 := by have := V1.facts.2; unfold maxLen at this; omega
        have hi63 : i ≤ 20 := hi20
        clear fr1 o1 hval hOR q0 q1 q2 q3 q4 q5 q6 q7 q8 q9
        go_wp2_with (go_at_call 23; refine (num_ok _ _).mono ?_; rintro e w' ⟨rfl, rfl⟩)
        go_loopg [4, 10] (nw + 1) (fun g kv jv wr => ∃ (j r : Nat), kv = .int .i64 r ∧ jv = .int .i64 j ∧ j ≤ nw ∧ g = nw - j + 1 ∧ r ≤ 20 ∧ r + sumD S ((valsOf S).take j) = i ∧ Frm No w1 wr)
        case atStart => exact ⟨0, i, rfl, rfl, Nat.zero_le _, by omega, hi20, by simp [sumD], Frm.refl _ _⟩
        case round =>
          obtain ⟨j, r, rfl, rfl, hj, hg2, hr20, hsum, fr⟩ := hrel
          have hG2 := Lib.hid hg2
          have HSUM := Lib.hid hsum
          have B2 := fr.obj B1 id
          have V2 := V1.no fr
          have R2 := R1.no fr
          clear hg2 hsum
          obtain ⟨q0, q1, q2, q3, q4, q5, q6, q7, q8, q9⟩ := obj10 B2
          have hb2 := lt_of_block B2
          by_cases hlt : j < nw
          · have l1 : j < (valsOf S).length := by rw [← hnw.out]; exact hlt
            obtain ⟨bl, ol, rfl, hbl, hcl⟩ := V2.at l1
            have e1 : wr.cell? ⟨bl, ol + j, none⟩ = some (.string (valsOf S)[j]) := by have := hcl 0 _ rfl; rwa [show j * eStr.k = j from Nat.mul_one j] at this
            obtain ⟨x, hx⟩ : ∃ x, Hid (x = (valsOf S)[j]) := ⟨_, Lib.hid rfl⟩
            rw [← hx.out] at e1
            obtain ⟨nd, hnd⟩ : ∃ nd, Hid (nd = (dotsOf S x).length) := ⟨_, Lib.hid rfl⟩
            have hpos : ¬ ((nd : Int) = 0) := by have := dots_pos (S := S) (x := x) (by rw [hx.out]; exact List.getElem_mem l1); have := hnd.out; omega
            have hstep := sumD_step (S := S) l1 hx
            have hle2 : nd ≤ r := by
              have h1 := sumD_le S (valsOf S) (j + 1)
              rw [sumD_vals, hstep] at h1
              have := HSUM.out; have := HSL.out; have := hnd.out; omega
            have HST := Lib.hid hstep
            have hdt := fun W (R : CellR W (setC S) (.slice a i c) (.slice b 0 d) (.slice f 0 h)) => set_dots R (by rw [HSL.out]; omega) x nd hnd.out
            clear hstep hcl
            have j1 : (j : Int) < nw := by omega
            cases j with
            | zero =>
              rw [Nat.add_zero] at e1
              go_wp2
              refine wp_region_plan [([0, 1, 2, 3, 4, 5, 6, 7, 8, 9, 10], [])] 121 (by kernel_rfl) (by kernel_rfl) (by simp) ?_
              intro N hN
              simp only [wpSegs, List.map_cons, List.map_nil, List.getD_cons_zero, List.getD_cons_succ]
              go_wp2_with (fail)
              refine (hdt _ (R2.no (Frm.drew No _))).mono ?_
              rintro e w2 ⟨a2, c2, rfl, o2, fr2⟩
              have G2 := fr.trans ((Frm.drew No _).trans fr2)
              clear o2 fr2 hdt q0 q1 q2 q3 q4 q5 q6 q7 q8 q9
              go_wp2
              refine wp_region_plan [([0, 1, 2, 3, 4, 5, 6, 7, 8, 9, 10, 11, 12, 13, 17, 18, 19, 20, 14], [20]), ([15, 16, 21, 22, 23], [])] 121 (by kernel_rfl) (by kernel_rfl) (by simp) ?_
              intro N2 hN2
              simp only [wpSegs, List.map_cons, List.map_nil, List.getD_cons_zero, List.getD_cons_succ]
              go_wp2_with (go_at_call 23; refine (num_ok _ _).mono ?_; rintro e w' ⟨rfl, rfl⟩)
              refine ⟨again_cons (again_not rfl ?_) again_nil, ?_⟩
              · rfl
              go_wp2
              go_roundg (nw - (0 + 1) + 1)
              case measure => have := hG2.out; omega
              case rel => exact ⟨0 + 1, r - nd, by congr 1; omega, by go_num, by omega, rfl, by omega, by rw [HST.out]; have := HSUM.out; have := hnd.out; omega, G2.trans (Frm.drew No _)⟩
            | succ jp =>
              have l0 : jp < (valsOf S).length := by omega
              obtain ⟨bl', ol', e', hbl', hcl'⟩ := V2.at l0
              simp only [Option.some.injEq, Addr.mk.injEq, and_true] at e'
              obtain ⟨rfl, rfl⟩ := e'
              have e2 : wr.cell? ⟨bl, ol + jp, none⟩ = some (.string (valsOf S)[jp]) := by have := hcl' 0 _ rfl; rwa [show jp * eStr.k = jp from Nat.mul_one jp] at this
              obtain ⟨y, hy⟩ : ∃ y, Hid (y = (valsOf S)[jp]) := ⟨_, Lib.hid rfl⟩
              rw [← hy.out] at e2
              have hless : Op.bytesLess y.toList x.toList = true := by
                refine less_of ?_
                rw [hy.out, hx.out]
                exact List.pairwise_iff_getElem.1 (valsOf_pw S) _ _ _ _ (Nat.lt_succ_self jp)
              clear hcl'
              go_wp2
              refine wp_region_plan [([0, 1, 2, 3, 4, 5, 6, 7, 8, 9, 10], [])] 121 (by kernel_rfl) (by kernel_rfl) (by simp) ?_
              intro N hN
              simp only [wpSegs, List.map_cons, List.map_nil, List.getD_cons_zero, List.getD_cons_succ]
              go_wp2_with (fail)
              refine (hdt _ (R2.no (Frm.drew No _))).mono ?_
              rintro e w2 ⟨a2, c2, rfl, o2, fr2⟩
              have G2 := fr.trans ((Frm.drew No _).trans fr2)
              have e1' : w2.cell? ⟨bl, ol + (jp + 1), none⟩ = some (.string x) := (((Frm.drew No _).trans fr2).cell (p := ⟨bl, ol + (jp + 1), none⟩) hbl id).trans e1
              have e2' : w2.cell? ⟨bl, ol + jp, none⟩ = some (.string y) := (((Frm.drew No _).trans fr2).cell (p := ⟨bl, ol + jp, none⟩) hbl id).trans e2
              have jj : ((jp + 1 : Nat) : Int) - 1 = (jp : Int) := by omega
              clear o2 fr2 hdt e1 e2 q0 q1 q2 q3 q4 q5 q6 q7 q8 q9
              go_wp2
              refine wp_region_plan [([0, 1, 2, 3, 4, 5, 6, 7, 8, 9, 10, 11, 12, 13, 17, 18, 19, 20, 14], [20]), ([15, 16, 21, 22, 23], [])] 121 (by kernel_rfl) (by kernel_rfl) (by simp) ?_
              intro N2 hN2
              simp only [wpSegs, List.map_cons, List.map_nil, List.getD_cons_zero, List.getD_cons_succ]
              go_wp2_with (go_at_call 23; refine (num_ok _ _).mono ?_; rintro e w' ⟨rfl, rfl⟩)
              refine ⟨(again_cons (again_of rfl rfl ?_) again_nil), ?_⟩
              · go_simp
              go_wp2
              go_roundg (nw - (jp + 1 + 1) + 1)
              case measure => have := hG2.out; omega
              case rel => exact ⟨jp + 1 + 1, r - nd, by congr 1; omega, by go_num, by omega, rfl, by omega, by rw [HST.out]; have := HSUM.out; have := hnd.out; omega, G2.trans (Frm.drew No _)⟩
          · have hjj : ¬ ((j : Int) < nw) := by omega
            have hr0 : r = 0 := by
              have h1 := HSUM.out
              rw [List.take_of_length_le (by have := hnw.out; omega), sumD_vals] at h1
              have := HSL.out; omega
            subst hr0
            obtain ⟨Z, hZ, hz⟩ : ∃ Z : ByteArray, Hid (Z = ⟨(List.replicate 257 0).toArray⟩) ∧ Z.size = 257 := ⟨_, Lib.hid rfl, by simp [ByteArray.size]⟩
            have hdz : dotsOf S Z = [] := dots_zero fun e he h => by have := HSZ2.out e he; rw [h] at this; omega
            have hdt := fun W (R : CellR W (setC S) (.slice a i c) (.slice b 0 d) (.slice f 0 h)) => set_dots R (by rw [HSL.out]; omega) Z 0 (by rw [hdz]; rfl)
            clear hdz
            go_wp2
            refine wp_region_plan [([0, 1], [0]), ([2], [0]), ([3, 4, 5, 6, 7, 8], [])] 121 (by kernel_rfl) (by kernel_rfl) (by simp) ?_
            intro N hN
            simp only [wpSegs, List.map_cons, List.map_nil, List.getD_cons_zero, List.getD_cons_succ]
            go_wp2_with (at_make; refine wpList_mk1 _ rfl _ _ 47 rfl 5 (.int .u8 0) 1 Try.underlying47 i_u8 rfl _ _ _ _ 257 rfl rfl rfl rfl (by decide) (by decide) ?_)
            intro w2 o2 g2
            have G2 : Frm No wr w2 := (Frm.drew No wr).trans (grown_no g2)
            have c2 := conv_zeros o2
            rw [← hZ.out] at c2
            have B3 := G2.obj B2 id
            clear q0 q1 q2 q3 q4 q5 q6 q7 q8 q9 o2 g2
            obtain ⟨q0, q1, q2, q3, q4, q5, q6, q7, q8, q9⟩ := obj10 B3
            go_wp2_with (fail)
            first | (refine ⟨(again_cons (again_of rfl rfl ?_) again_nil), ?_⟩) | (refine ⟨again_of rfl rfl ?_, ?_⟩)
            · go_simp
            go_wp2_with (fail)
            first | (refine ⟨(again_cons (again_of rfl rfl ?_) again_nil), ?_⟩) | (refine ⟨again_of rfl rfl ?_, ?_⟩)
            · go_simp
            go_wp2_with (fail)
            refine (hdt _ (R2.no G2)).mono ?_
            rintro e w3 ⟨a3, c3, rfl, o3, fr3⟩
            go_wp2_with (go_at_call 23; refine (num_ok _ _).mono ?_; rintro e w' ⟨rfl, rfl⟩)
            go_ret
            exact ⟨rfl, (F0.then (F1.trans ((fr.trans (G2.trans fr3)).mono fun _ _ h => h.elim)) fun k hk h => by omega).below (fun _ _ h => h) (Nat.le_refl _)⟩
end Go.Proofs.Ytheejjifcpjdbaa

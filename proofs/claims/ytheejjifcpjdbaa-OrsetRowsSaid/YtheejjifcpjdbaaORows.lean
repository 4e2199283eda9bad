/- tattlelaw9.OrsetRows answers true, for every input. -/
import Derived.Test.YtheejjifcpjdbaaLaw9c
import Derived.Test.YtheejjifcpjdbaaVal9
import Derived.Test.YtheejjifcpjdbaaPlan5
import Derived.Test.YtheejjifcpjdbaaSameCell
namespace Go.Proofs.Ytheejjifcpjdbaa
set_option linter.unusedVariables false
set_option linter.unusedSimpArgs false
open Go.RowKit Go.Lib Go.Tt
theorem factor {α : Type} {G : Prop} (A : α) (Q : α → Prop) (main : Q A → G) (key : Q A) : G := main key
theorem value_all (x : Int) : ∃ a : Nat, a ≤ 7 ∧ (x % 8).toNat = a ∧ ∀ w, Calls Try.prog 57 #[.int .i64 x] w fun e w' => e = .returned (.string (vB a)) ∧ Frm No w w' := by
  refine ⟨(x % 8).toNat, by omega, rfl, fun w => ?_⟩
  obtain ⟨a, h1, h2, h3⟩ := value_ok x w
  rw [show (x % 8).toNat = a by omega]
  exact h3
theorem vB_size (a : Nat) : (vB a).size = 2 := rfl
theorem set_one (a : Option Addr) (n c : Nat) (b : Option Addr) (d : Nat) (f : Option Addr) (g : Nat) : ∀ u ∈ ([.int .i64 2, .bool false, .int .i64 0, .int .i64 0, .string ⟨#[]⟩, .int .i64 0, .int .i64 0, .slice a n c, .slice b 0 d, .slice f 0 g] : List Value), u.oneCell' = true := by
  intro u hu
  simp only [List.mem_cons, List.not_mem_nil, or_false] at hu
  rcases hu with rfl | rfl | rfl | rfl | rfl | rfl | rfl | rfl | rfl | rfl <;> rfl
theorem CellO.no {w w' : World} {F : Nat → Prop} {c : CellV} {ve vl vs : Value} (h : CellO w F c ve vl vs) (f : Frm No w w') : CellO w' F c ve vl vs := h.frm f fun _ _ h => h
theorem CellO.tyfrm {w w' : World} {F G : Nat → Prop} {c : CellV} {ve vl vs : Value} (h : CellO w F c ve vl vs) (f : Frm (Ty w 61 G) w w') : CellO w' F c ve vl vs :=
  have a := h.e.ty.frm f fun _ hk e => Ty.apart (by decide) hk e
  have b := h.l.ty.frm f fun _ hk e => Ty.apart (by decide) hk e
  have d := h.s.ty.frm f fun _ hk e => Ty.apart (by decide) hk e
  ⟨a.mono fun _ _ h => h.1, b.mono fun _ _ h => h.1, d.mono fun _ _ h => h.1⟩
/-- The values that are left, in their row. -/
def wantL (g : Nat → Bool) (n : Nat) : List ByteArray := ((List.range n).filter g).map vB
theorem wantL_succ (g : Nat → Bool) (n : Nat) : wantL g (n + 1) = wantL g n ++ if g n then [vB n] else [] := by
  unfold wantL
  rw [List.range_succ, List.filter_append, List.map_append]
  congr 1
  by_cases h : g n = true <;> simp [h]
theorem wantL_le (g : Nat → Bool) (n : Nat) : (wantL g n).length ≤ n := by
  unfold wantL
  rw [List.length_map]
  exact Nat.le_trans (List.length_filter_le _ _) (Nat.le_of_eq List.length_range)
theorem vB_pw : ((List.range 8).map vB).Pairwise ltB := by
  unfold ltB
  decide
theorem wantL_pw (g : Nat → Bool) : (wantL g 8).Pairwise ltB := vB_pw.sublist (List.filter_sublist.map vB)
/-- What a put's region leaves: a set of its own in a block of its own. -/
def FP (wr : World) (B : Nat) (S : List En) (n X : Nat) (W : World) (a : Option Addr) (c : Nat) (b : Option Addr) (d : Nat) (f : Option Addr) (g : Nat) : Prop :=
  Frm No wr W ∧ wr.heap.size ≤ X ∧ W.heap[X]? = some (.cells #[.int .i64 2, .bool false, .int .i64 0, .int .i64 0, .string ⟨#[]⟩, .int .i64 0, .int .i64 0, .slice a n c, .slice b 0 d, .slice f 0 g] 59 (0, 0)) ∧ CellO W (fun k => B < k) (setC S) (.slice a n c) (.slice b 0 d) (.slice f 0 g)
theorem wpSub_z {ops : Array Oper} {i : Nat} {K : Act → World → Prop} {a : Act} {w : World} {dst : Option Tmp} {t t' : TypeId} {l r : Operand} {ty : TypeId} {pos : String} {after : Array Edge} {k : IntKind} {x y z : Int} (ho : ops[i]? = some { dst, op := .binOp .sub t l r t', type := ty, pos, after, guard := none })
    (hl : a.eval l = .int k x) (hr : a.eval r = .int k y) (hz : k.wrap (x - y) = z) (h : K (a.put dst (.int k z)) w) : wpSub ops i K a w := by
  subst hz
  simp only [wpSub, ho]
  exact ⟨k, x, y, hl, hr, h⟩
/-- The left values, as cells. -/
def boolC (l : List Bool) : Array Value := (l.map Value.bool).toArray
/-- Is a value left behind i puts? -/
def leftF (bit : Nat → Bool) (fv : Nat → Nat) (i a : Nat) : Bool := (List.range i).any fun j => !bit j && fv j == a
theorem leftF_succ (bit : Nat → Bool) (fv : Nat → Nat) (i a : Nat) : leftF bit fv (i + 1) a = (leftF bit fv i a || (!bit i && fv i == a)) := by
  unfold leftF
  rw [List.range_succ, List.any_append]
  simp
theorem leftF_iff {bit : Nat → Bool} {fv : Nat → Nat} {k a : Nat} : leftF bit fv k a = true ↔ ∃ i, i < k ∧ bit i = false ∧ fv i = a := by
  unfold leftF
  simp [List.any_eq_true]
theorem want_ok (f : Nat → ByteArray) (fv : Nat → Nat) (bit : Nat → Bool) (k : Nat) (hv : ∀ i, i < k → fv i < 8) (hf : ∀ i, i < k → f i = vB (fv i)) : valsOf (dropped (addL f k) (goneL bit k)) = wantL (leftF bit fv k) 8 := by
  refine valsOf_eq (wantL_pw _) fun x => ?_
  rw [mem_left]
  unfold wantL
  constructor
  · intro h
    obtain ⟨a, ha, rfl⟩ := List.mem_map.1 h
    obtain ⟨i, hi, h1, h2⟩ := leftF_iff.1 (List.mem_filter.1 ha).2
    exact ⟨i, hi, h1, by rw [hf i hi, h2]⟩
  · rintro ⟨i, hi, h1, rfl⟩
    exact List.mem_map.2 ⟨fv i, List.mem_filter.2 ⟨List.mem_range.2 (hv i hi), leftF_iff.2 ⟨i, hi, h1, rfl⟩⟩, (hf i hi).symm⟩
theorem leftF_zero (bit : Nat → Bool) (fv : Nat → Nat) (a : Nat) : leftF bit fv 0 a = false := rfl
set_option maxHeartbeats 8000000 in
set_option maxRecDepth 100000 in
theorem orows_walk (w : World) {a0 : Option Addr} {n0 c0 : Nat} {L : List Int} (hL : RdS w eInt (.slice a0 n0 c0) L) (drops : Int) : Calls Try.prog 9 #[.slice a0 n0 c0, .int .i64 drops] w fun e w' => e = .returned (.bool true) ∧ Below w.heap.size w w' := by
  obtain ⟨hn, hnc, hcm, -⟩ := hL.facts
  unfold maxLen at hcm
  have HN := Lib.hid hn
  obtain ⟨fT, hfT⟩ : ∃ fT : Nat → ByteArray, Hid (fT = fun j => vB (L.getD j 0 % 8).toNat) := ⟨_, Lib.hid rfl⟩
  obtain ⟨fV, hfV⟩ : ∃ fV : Nat → Nat, Hid (fV = fun j => (L.getD j 0 % 8).toNat) := ⟨_, Lib.hid rfl⟩
  obtain ⟨bitF, hbitF⟩ : ∃ bitF : Nat → Bool, Hid (bitF = fun j => bits .and .i64 (drops / 2 ^ j) 1 == 1) := ⟨_, Lib.hid rfl⟩
  clear hn
  go_enter Try.func9, Try.ntmps9
  go_wp2_with (fail)
  refine (awake9_ok _).mono ?_
  rintro e w0 ⟨rfl, F0⟩
  have hle : w.heap.size ≤ w0.heap.size := F0.size
  have hL0 := hL.no F0
  clear hL
  obtain ⟨kk, hkk, hk16, hkn⟩ : ∃ kk : Nat, min (n0 : Int) 16 = kk ∧ kk ≤ 16 ∧ kk ≤ n0 := ⟨min n0 16, by omega, by omega, by omega⟩
  go_wp2
  go_loopg [8, 10] (kk + 1) (fun gg gv iv wr => ∃ (i : Nat) (ua : Option Addr) (uc : Nat) (ub : Option Addr) (ud : Nat) (uf : Option Addr) (ug : Nat) (da : Option Addr) (dc : Nat) (db : Option Addr) (dd : Nat) (df : Option Addr) (dg : Nat) (ga : Option Addr) (gn gc : Nat) (lb : List Bool),
    gv = .slice ga gn gc ∧ iv = .int .i64 i ∧ i ≤ kk ∧ gg = kk - i + 1 ∧ wr.heap[w0.heap.size]? = some (.cells #[.int .i64 2, .bool false, .int .i64 0, .int .i64 0, .string ⟨#[]⟩, .int .i64 0, .int .i64 0, .slice ua i uc, .slice ub 0 ud, .slice uf 0 ug] 59 (0, 0)) ∧ wr.heap[w0.heap.size + 1]? = some (.cells #[.int .i64 2, .bool false, .int .i64 0, .int .i64 0, .string ⟨#[]⟩, .int .i64 0, .int .i64 0, .slice da i dc, .slice db 0 dd, .slice df 0 dg] 59 (0, 0)) ∧ wr.heap[w0.heap.size + 2]? = some (.cells (boolC lb) 85 (0, 0)) ∧
    lb.length = 8 ∧ (∀ a, a < 8 → lb.getD a false = leftF bitF fV i a) ∧ CellO wr (fun k => w0.heap.size + 2 < k) (setC (addL fT i)) (.slice ua i uc) (.slice ub 0 ud) (.slice uf 0 ug) ∧
    CellO wr (fun k => w0.heap.size + 2 < k) (setC (dnL fT kk i)) (.slice da i dc) (.slice db 0 dd) (.slice df 0 dg) ∧ Ow wr (fun k => w0.heap.size + 2 < k) 61 eDt (.slice ga gn gc) (goneL bitF i) ∧ Frm (fun k => w0.heap.size ≤ k) w0 wr)
  case atStart => exact ⟨0, none, 0, none, 0, none, 0, none, 0, none, 0, none, 0, none, 0, 0, List.replicate 8 false, rfl, rfl, Nat.zero_le _, by omega, al_old (al_old (heap_alloc_new w0 _)), al_old (al_at (by simp)), al_at (by simp), rfl, fun a ha => by rw [leftF_zero, List.getD_eq_getElem?_getD, List.getElem?_replicate, if_pos ha]; rfl, ⟨Ow.nil _ _ _ _ _, Ow.nil _ _ _ _ _, Ow.nil _ _ _ _ _⟩, ⟨Ow.nil _ _ _ _ _, Ow.nil _ _ _ _ _, Ow.nil _ _ _ _ _⟩, Ow.nil _ _ _ _ _, (((Frm.refl _ w0).al _).al _).al _⟩
  case round =>
    obtain ⟨i, ua, uc, ub, ud, uf, ug, da, dc, db, dd, df, dg, ga, gn, gc, lb, rfl, rfl, hi, hg, BU, BD, BL, hlb, hleft, OU, OD, OG, FR⟩ := hrel
    have hG := Lib.hid hg
    have HLB := Lib.hid hlb
    have HLF := Lib.hid hleft
    have nL := lt_of_block BL
    have HL := Lib.hid nL
    clear hg hlb hleft
    by_cases hlt : i < kk
    · have i1 : (i : Int) < kk := by omega
      have l1 : i < L.length := by have := HN.out; omega
      have l2 : kk - 1 - i < L.length := by have := HN.out; omega
      obtain ⟨bl, ol, rfl, hbl, hcl⟩ := hL0.at l1
      obtain ⟨bl', ol', e', hbl', hcl'⟩ := hL0.at l2
      simp only [Option.some.injEq, Addr.mk.injEq, and_true] at e'
      obtain ⟨rfl, rfl⟩ := e'
      have hblr : bl < wr.heap.size := Nat.lt_of_lt_of_le hbl FR.size
      have hcell : ∀ j (hj : j < L.length) u, w0.cell? ⟨bl, ol + j * eInt.k + 0, none⟩ = some u → wr.cell? ⟨bl, ol + j, none⟩ = some u := fun j hj u hu => by
        rw [FR.cell (p := ⟨bl, ol + j, none⟩) hbl (by show ¬ w0.heap.size ≤ bl; omega)]
        rwa [show j * eInt.k = j from Nat.mul_one j, Nat.add_zero] at hu
      have e1 := hcell _ l1 _ (hcl 0 _ rfl)
      have e2 := hcell _ l2 _ (hcl' 0 _ rfl)
      obtain ⟨x, hx⟩ : ∃ x, Hid (x = L[i]) := ⟨_, Lib.hid rfl⟩
      obtain ⟨y, hy⟩ : ∃ y, Hid (y = L[kk - 1 - i]) := ⟨_, Lib.hid rfl⟩
      rw [← hx.out] at e1
      rw [← hy.out] at e2
      obtain ⟨pa, hpa, hpx, hvx⟩ := value_all x
      obtain ⟨pb, hpb, hpy, hvy⟩ := value_all y
      have hf1 : Hid (fT i = vB pa) := Lib.hid (by rw [hfT.out]; simp only; rw [List.getD_eq_getElem?_getD, List.getElem?_eq_getElem l1, Option.getD_some, ← hx.out, hpx])
      have hf2 : Hid (fT (kk - 1 - i) = vB pb) := Lib.hid (by rw [hfT.out]; simp only; rw [List.getD_eq_getElem?_getD, List.getElem?_eq_getElem l2, Option.getD_some, ← hy.out, hpy])
      have hput := fun W (R : CellR W (setC (addL fT i)) (.slice ua i uc) (.slice ub 0 ud) (.slice uf 0 ug)) => set_put R (by rw [addL_len]; omega) (dt9 i) (dt9_may (by omega)) (vB pa) (by rw [vB_size]; omega) addL_new (i + 1) (by rw [addL_len])
      rw [show putEn (addL fT i) (dt9 i) (vB pa) = addL fT (i + 1) by rw [addL, hf1.out]] at hput
      have hput2 := fun W (R : CellR W (setC (dnL fT kk i)) (.slice da i dc) (.slice db 0 dd) (.slice df 0 dg)) => set_put R (by rw [dnL_len]; omega) (dt9 (kk - 1 - i)) (dt9_may (by omega)) (vB pb) (by rw [vB_size]; omega) (dnL_new hlt) (i + 1) (by rw [dnL_len])
      rw [show putEn (dnL fT kk i) (dt9 (kk - 1 - i)) (vB pb) = dnL fT kk (i + 1) by rw [dnL, hf2.out]] at hput2
      have HPX := Lib.hid hpx
      clear hcl hcl' hcell hpx hpy
      have nU := lt_of_block BU
      have RU := OU.rd
      go_wp2
      refine wp_region_fork (.seg [0, 1, 3, 4, 5, 6] [] (.fork 2 [6, 0] (.fork 7 [0] (.fork 8 [] (.seg [9, 10, 11, 12] [] (.seg [13] [] (.seg [14] [] .nil))) 12 [0] (.seg [8] [] (.seg [9, 10, 11, 13] [] (.seg [14] [] .nil)))) 12 [6, 0] (.seg [7] [0] (.seg [8] [] (.seg [9, 10, 11, 13] [] (.seg [14] [] .nil))))) 12 [6, 0] (.seg [2] [6, 0] (.seg [7] [0] (.seg [8] [] (.seg [9, 10, 11, 13] [] (.seg [14] [] .nil))))))) 140 (by kernel_rfl) (by kernel_rfl) (by simp) ?_
      intro N hN
      have HNN := Lib.hid hN
      clear hN
      simp only [wpST, wpSg, List.map_cons, List.map_nil, List.getD_cons_zero, List.getD_cons_succ]
      apply factor (α := Nat → Option Addr → Nat → Option Addr → Nat → Option Addr → Nat → Act) _ (fun A => ∀ (X : Nat) (W : World) (a : Option Addr) (c : Nat) (b : Option Addr) (d : Nat) (f : Option Addr) (g : Nat), FP wr (w0.heap.size + 2) (addL fT (i + 1)) (i + 1) X W a c b d f g → N (A X a c b d f g) W)
      case main =>
        intro key
        have KEY := Lib.hid key
        clear key
        obtain ⟨q0, q1, q2, q3, q4, q5, q6, q7, q8, q9⟩ := obj10 BU
        go_wp2_with (fail)
        refine ⟨?_, ?_⟩
        · go_wp2_with (fail)
          refine (dot9_ok i (by omega) _).mono ?_
          rintro e w1 ⟨rfl, fr1⟩
          have G1 : Frm No wr w1 := (Frm.drew No wr).trans fr1
          have Bw1 := G1.obj BU id
          have xw1 : w1.cell? ⟨bl, ol + i, none⟩ = some (.int .i64 x) := (G1.cell (p := ⟨bl, ol + i, none⟩) hblr id).trans e1
          clear q0 q1 q2 q3 q4 q5 q6 q7 q8 q9
          obtain ⟨q0, q1, q2, q3, q4, q5, q6, q7, q8, q9⟩ := obj10 Bw1
          have nw1 := lt_of_block Bw1
          have mw1 : bl < w1.heap.size := Nat.lt_of_lt_of_le hblr G1.size
          go_wp2_with (fail)
          refine ⟨(again_cons (again_of rfl rfl ?_) (again_cons (again_of rfl rfl ?_) again_nil)), ?_⟩
          · go_simp
          · go_simp
          refine ⟨?_, ?_⟩
          · go_wp2_with (fail)
            refine (hvx _).mono ?_
            rintro e w2 ⟨rfl, fr2⟩
            have G2 := G1.trans fr2
            have Bw2 := G2.obj BU id
            have xw2 : w2.cell? ⟨bl, ol + i, none⟩ = some (.int .i64 x) := (G2.cell (p := ⟨bl, ol + i, none⟩) hblr id).trans e1
            clear q0 q1 q2 q3 q4 q5 q6 q7 q8 q9
            obtain ⟨q0, q1, q2, q3, q4, q5, q6, q7, q8, q9⟩ := obj10 Bw2
            have nw2 := lt_of_block Bw2
            have mw2 : bl < w2.heap.size := Nat.lt_of_lt_of_le hblr G2.size
            go_wp2_with (fail)
            refine ⟨(again_cons (again_of rfl rfl ?_) again_nil), ?_⟩
            · go_simp
            refine ⟨?_, ?_⟩
            · go_wp2_with (fail)
              refine (hput _ (RU.no G2)).mono ?_
              rintro e w9 ⟨a2, c2, b2, d2, f2, h2, rfl, o2, fr2⟩
              have GG := G2.trans fr2
              have sg := G2.size
              have O2 := o2.mono (G := fun k => w0.heap.size + 2 < k) fun k _ hh => by rcases hh with hh | hh; exact hh.elim; have := hh.1; omega
              clear fr2 o2 q0 q1 q2 q3 q4 q5 q6 q7 q8 q9
              go_wp2
              obtain ⟨X, hX⟩ : ∃ X, X = w9.heap.size := ⟨_, rfl⟩
              rw [← hX]
              have key := KEY.out
              exact key X (w9.alloc (.cells #[.int .i64 2, .bool false, .int .i64 0, .int .i64 0, .string ⟨#[]⟩, .int .i64 0, .int .i64 0, .slice a2 (i + 1) c2, .slice b2 0 d2, .slice f2 0 h2] 59 (0, 0))) a2 c2 b2 d2 f2 h2 ⟨GG.al _, by rw [hX]; exact GG.size, by rw [hX]; exact heap_alloc_new w9 _, O2.no ((Frm.refl No w9).al _)⟩
            · go_wp2_with (fail)
              refine ⟨(again_cons (again_of rfl rfl ?_) again_nil), ?_⟩
              · go_simp
              have T3 : (w2.alloc (.cells zlist.toArray 59 (0, 0))).heap[w2.heap.size]? = some (.cells zlist.toArray 59 (0, 0)) := heap_alloc_new w2 _
              have G3 : Frm No wr (w2.alloc (.cells zlist.toArray 59 (0, 0))) := G2.al _
              have sz3 : w2.heap.size < (w2.alloc (.cells zlist.toArray 59 (0, 0))).heap.size := by simp
              go_wp2_with (fail)
              refine (hput _ (RU.no G3)).mono ?_
              rintro e w9 ⟨a2, c2, b2, d2, f2, h2, rfl, o2, fr2⟩
              have GG := G3.trans fr2
              have sg := G3.size
              have T9 := fr2.obj T3 id
              have nT := lt_of_block T3
              have zx : wr.heap.size ≤ w2.heap.size := G2.size
              have zL := HL.out
              have O2 := o2.mono (G := fun k => w2.heap.size < k) fun k _ hh => by rcases hh with hh | hh; exact hh.elim; have := hh.1; omega
              clear fr2 o2 q0 q1 q2 q3 q4 q5 q6 q7 q8 q9
              go_wp2_with (refine wpList_sto _ rfl (.tmp 11) (.tmp 43) 59 rfl T9 (by kernel_rfl) (by rfl) (set_one a2 (i + 1) c2 b2 d2 f2 h2) rfl rfl ?_)
              intro w8 T8 f8 z8
              have O3 := (O2.frm f8 fun k hk e => by omega).mono (G := fun k => w0.heap.size + 2 < k) fun k _ hh => by omega
              have G8 : Frm No wr w8 := GG.then f8 fun k hk e => by omega
              go_wp2
              obtain ⟨X, hX⟩ : ∃ X, X = w2.heap.size := ⟨_, rfl⟩
              rw [← hX]
              have key := KEY.out
              exact key X w8 a2 c2 b2 d2 f2 h2 ⟨G8, by rw [hX]; exact zx, by rw [hX]; exact T8, O3⟩
          · go_wp2_with (fail)
            refine ⟨(again_cons (again_of rfl rfl ?_) (again_cons (again_of rfl rfl ?_) again_nil)), ?_⟩
            · go_simp
            · go_simp
            go_wp2_with (fail)
            refine (hvx _).mono ?_
            rintro e w2 ⟨rfl, fr2⟩
            have G2 : Frm No wr w2 := (G1.al _).trans fr2
            have T2 : w2.heap[w1.heap.size]? = some (.cells zlist.toArray 59 (0, 0)) := fr2.obj (heap_alloc_new w1 _) id
            have Bw2 := G2.obj BU id
            have xw2 : w2.cell? ⟨bl, ol + i, none⟩ = some (.int .i64 x) := (G2.cell (p := ⟨bl, ol + i, none⟩) hblr id).trans e1
            clear q0 q1 q2 q3 q4 q5 q6 q7 q8 q9
            obtain ⟨q0, q1, q2, q3, q4, q5, q6, q7, q8, q9⟩ := obj10 Bw2
            have nw2 := lt_of_block Bw2
            have mw2 : bl < w2.heap.size := Nat.lt_of_lt_of_le hblr G2.size
            go_wp2_with (fail)
            refine ⟨(again_cons (again_of rfl rfl ?_) again_nil), ?_⟩
            · go_simp
            go_wp2_with (fail)
            refine (hput _ (RU.no G2)).mono ?_
            rintro e w9 ⟨a2, c2, b2, d2, f2, h2, rfl, o2, fr2⟩
            have GG := G2.trans fr2
            have sg := G2.size
            have T9 := fr2.obj T2 id
            have nT := lt_of_block T2
            have zx : wr.heap.size ≤ w1.heap.size := G1.size
            have zL := HL.out
            have O2 := o2.mono (G := fun k => w1.heap.size < k) fun k _ hh => by rcases hh with hh | hh; exact hh.elim; have := hh.1; omega
            clear fr2 o2 q0 q1 q2 q3 q4 q5 q6 q7 q8 q9
            go_wp2_with (refine wpList_sto _ rfl (.tmp 11) (.tmp 43) 59 rfl T9 (by kernel_rfl) (by rfl) (set_one a2 (i + 1) c2 b2 d2 f2 h2) rfl rfl ?_)
            intro w8 T8 f8 z8
            have O3 := (O2.frm f8 fun k hk e => by omega).mono (G := fun k => w0.heap.size + 2 < k) fun k _ hh => by omega
            have G8 : Frm No wr w8 := GG.then f8 fun k hk e => by omega
            go_wp2
            obtain ⟨X, hX⟩ : ∃ X, X = w1.heap.size := ⟨_, rfl⟩
            rw [← hX]
            have key := KEY.out
            exact key X w8 a2 c2 b2 d2 f2 h2 ⟨G8, by rw [hX]; exact zx, by rw [hX]; exact T8, O3⟩
        · go_wp2_with (fail)
          refine ⟨(again_cons (again_of rfl rfl ?_) (again_cons (again_of rfl rfl ?_) again_nil)), ?_⟩
          · go_simp
          · go_simp
          go_wp2_with (fail)
          refine (dot9_ok i (by omega) _).mono ?_
          rintro e w1 ⟨rfl, fr1⟩
          have G1 : Frm No wr w1 := ((Frm.refl No wr).al _).trans ((Frm.drew No _).trans fr1)
          have T1 : w1.heap[wr.heap.size]? = some (.cells zlist.toArray 59 (0, 0)) := fr1.obj (heap_alloc_new wr _) id
          have Bw1 := G1.obj BU id
          have xw1 : w1.cell? ⟨bl, ol + i, none⟩ = some (.int .i64 x) := (G1.cell (p := ⟨bl, ol + i, none⟩) hblr id).trans e1
          clear q0 q1 q2 q3 q4 q5 q6 q7 q8 q9
          obtain ⟨q0, q1, q2, q3, q4, q5, q6, q7, q8, q9⟩ := obj10 Bw1
          have nw1 := lt_of_block Bw1
          have mw1 : bl < w1.heap.size := Nat.lt_of_lt_of_le hblr G1.size
          go_wp2_with (fail)
          refine ⟨(again_cons (again_of rfl rfl ?_) (again_cons (again_of rfl rfl ?_) again_nil)), ?_⟩
          · go_simp
          · go_simp
          go_wp2_with (fail)
          refine (hvx _).mono ?_
          rintro e w2 ⟨rfl, fr2⟩
          have G2 := G1.trans fr2
          have T2 := fr2.obj T1 id
          have Bw2 := G2.obj BU id
          have xw2 : w2.cell? ⟨bl, ol + i, none⟩ = some (.int .i64 x) := (G2.cell (p := ⟨bl, ol + i, none⟩) hblr id).trans e1
          clear q0 q1 q2 q3 q4 q5 q6 q7 q8 q9
          obtain ⟨q0, q1, q2, q3, q4, q5, q6, q7, q8, q9⟩ := obj10 Bw2
          have nw2 := lt_of_block Bw2
          have mw2 : bl < w2.heap.size := Nat.lt_of_lt_of_le hblr G2.size
          go_wp2_with (fail)
          refine ⟨(again_cons (again_of rfl rfl ?_) again_nil), ?_⟩
          · go_simp
          go_wp2_with (fail)
          refine (hput _ (RU.no G2)).mono ?_
          rintro e w9 ⟨a2, c2, b2, d2, f2, h2, rfl, o2, fr2⟩
          have GG := G2.trans fr2
          have sg := G2.size
          have T9 := fr2.obj T2 id
          have nT := lt_of_block T2
          have zx : wr.heap.size ≤ wr.heap.size := Nat.le_refl _
          have zL := HL.out
          have O2 := o2.mono (G := fun k => wr.heap.size < k) fun k _ hh => by rcases hh with hh | hh; exact hh.elim; have := hh.1; omega
          clear fr2 o2 q0 q1 q2 q3 q4 q5 q6 q7 q8 q9
          go_wp2_with (refine wpList_sto _ rfl (.tmp 11) (.tmp 43) 59 rfl T9 (by kernel_rfl) (by rfl) (set_one a2 (i + 1) c2 b2 d2 f2 h2) rfl rfl ?_)
          intro w8 T8 f8 z8
          have O3 := (O2.frm f8 fun k hk e => by omega).mono (G := fun k => w0.heap.size + 2 < k) fun k _ hh => by omega
          have G8 : Frm No wr w8 := GG.then f8 fun k hk e => by omega
          go_wp2
          obtain ⟨X, hX⟩ : ∃ X, X = wr.heap.size := ⟨_, rfl⟩
          rw [← hX]
          have key := KEY.out
          exact key X w8 a2 c2 b2 d2 f2 h2 ⟨G8, by rw [hX]; exact zx, by rw [hX]; exact T8, O3⟩
      intro X W1 a1 c1 b1 d1 f1 g1 hF
      obtain ⟨G0, zX, BX, OX⟩ := hF
      have BD1 := G0.obj BD id
      have BL1 := G0.obj BL id
      have x1 : W1.cell? ⟨bl, ol + (kk - 1 - i), none⟩ = some (.int .i64 y) := (G0.cell (p := ⟨bl, ol + (kk - 1 - i), none⟩) hblr id).trans e2
      have hblr1 : bl < W1.heap.size := Nat.lt_of_lt_of_le hblr G0.size
      have OD1 := OD.no G0
      have RD := OD1.rd
      have HL1 : Hid (w0.heap.size + 2 < W1.heap.size) := Lib.hid (by have := G0.size; omega)
      have BU1 := G0.obj BU id
      have nD := lt_of_block BD1
      have nL1 := lt_of_block BL1
      have nX1 := lt_of_block BX
      refine HNN.out _ _ ?_
      clear HNN hvx hput OU RU hL0
      go_wp2
      refine wp_region_fork5 (.seg [0, 1, 3, 6, 7, 9] [] (.sub 2 (.sub 4 (.sub 8 (.sub 10 (.seg [11, 12] [] (.fork 5 [12, 0] (.fork 13 [0] (.fork 14 [] (.seg [15, 16, 17, 18] [] (.seg [19] [] (.seg [20] [] .nil))) 18 [0] (.seg [14] [] (.seg [15, 16, 17, 19] [] (.seg [20] [] .nil)))) 18 [12, 0] (.seg [13] [0] (.seg [14] [] (.seg [15, 16, 17, 19] [] (.seg [20] [] .nil))))) 18 [12, 0] (.seg [5] [12, 0] (.seg [13] [0] (.seg [14] [] (.seg [15, 16, 17, 19] [] (.seg [20] [] .nil)))))))))))) 140 (by kernel_rfl) (by kernel_rfl) (by simp) ?_
      intro N hN
      have HNN := Lib.hid hN
      clear hN
      simp only [wpST5, wpSg, List.map_cons, List.map_nil, List.getD_cons_zero, List.getD_cons_succ]
      apply factor (α := Nat → Option Addr → Nat → Option Addr → Nat → Option Addr → Nat → Act) _ (fun A => ∀ (X : Nat) (W : World) (a : Option Addr) (c : Nat) (b : Option Addr) (d : Nat) (f : Option Addr) (g : Nat), FP W1 (w0.heap.size + 2) (dnL fT kk (i + 1)) (i + 1) X W a c b d f g → N (A X a c b d f g) W)
      case main =>
        intro key
        have KEY := Lib.hid key
        clear key
        obtain ⟨q0, q1, q2, q3, q4, q5, q6, q7, q8, q9⟩ := obj10 BD1
        go_wp2_with (fail)
        have zk : IntKind.i64.wrap ((kk : Int) - 1) = ((kk - 1 : Nat) : Int) := by rw [IntKind.wrap_i64] <;> omega
        have zj : IntKind.i64.wrap (((kk - 1 : Nat) : Int) - (i : Int)) = ((kk - 1 - i : Nat) : Int) := by rw [IntKind.wrap_i64] <;> omega
        refine wpSub_z (z := ((kk - 1 : Nat) : Int)) rfl rfl rfl zk ?_
        refine wpSub_z (z := ((kk - 1 - i : Nat) : Int)) rfl rfl rfl zj ?_
        refine wpSub_z (z := ((kk - 1 : Nat) : Int)) rfl rfl rfl zk ?_
        refine wpSub_z (z := ((kk - 1 - i : Nat) : Int)) rfl rfl rfl zj ?_
        clear zk zj
        have zb : kk - 1 - i < n0 := by omega
        go_wp2_with (fail)
        refine ⟨?_, ?_⟩
        · go_wp2_with (fail)
          refine (dot9_ok (kk - 1 - i) (by omega) _).mono ?_
          rintro e w1 ⟨rfl, fr1⟩
          have G1 : Frm No W1 w1 := (Frm.drew No W1).trans fr1
          have Bw1 := G1.obj BD1 id
          have xw1 : w1.cell? ⟨bl, ol + (kk - 1 - i), none⟩ = some (.int .i64 y) := (G1.cell (p := ⟨bl, ol + (kk - 1 - i), none⟩) hblr1 id).trans x1
          clear q0 q1 q2 q3 q4 q5 q6 q7 q8 q9
          obtain ⟨q0, q1, q2, q3, q4, q5, q6, q7, q8, q9⟩ := obj10 Bw1
          have nw1 := lt_of_block Bw1
          have mw1 : bl < w1.heap.size := Nat.lt_of_lt_of_le hblr1 G1.size
          go_wp2_with (fail)
          refine ⟨(again_cons (again_of rfl rfl ?_) (again_cons (again_of rfl rfl ?_) again_nil)), ?_⟩
          · go_simp
          · go_simp
          refine ⟨?_, ?_⟩
          · go_wp2_with (fail)
            refine (hvy _).mono ?_
            rintro e w2 ⟨rfl, fr2⟩
            have G2 := G1.trans fr2
            have Bw2 := G2.obj BD1 id
            have xw2 : w2.cell? ⟨bl, ol + (kk - 1 - i), none⟩ = some (.int .i64 y) := (G2.cell (p := ⟨bl, ol + (kk - 1 - i), none⟩) hblr1 id).trans x1
            clear q0 q1 q2 q3 q4 q5 q6 q7 q8 q9
            obtain ⟨q0, q1, q2, q3, q4, q5, q6, q7, q8, q9⟩ := obj10 Bw2
            have nw2 := lt_of_block Bw2
            have mw2 : bl < w2.heap.size := Nat.lt_of_lt_of_le hblr1 G2.size
            go_wp2_with (fail)
            refine ⟨(again_cons (again_of rfl rfl ?_) again_nil), ?_⟩
            · go_simp
            refine ⟨?_, ?_⟩
            · go_wp2_with (fail)
              refine (hput2 _ (RD.no G2)).mono ?_
              rintro e w9 ⟨a2, c2, b2, d2, f2, h2, rfl, o2, fr2⟩
              have GG := G2.trans fr2
              have sg := G2.size
              have O2 := o2.mono (G := fun k => w0.heap.size + 2 < k) fun k _ hh => by rcases hh with hh | hh; exact hh.elim; have := hh.1; omega
              clear fr2 o2 q0 q1 q2 q3 q4 q5 q6 q7 q8 q9
              go_wp2
              obtain ⟨X, hX⟩ : ∃ X, X = w9.heap.size := ⟨_, rfl⟩
              rw [← hX]
              have key := KEY.out
              exact key X (w9.alloc (.cells #[.int .i64 2, .bool false, .int .i64 0, .int .i64 0, .string ⟨#[]⟩, .int .i64 0, .int .i64 0, .slice a2 (i + 1) c2, .slice b2 0 d2, .slice f2 0 h2] 59 (0, 0))) a2 c2 b2 d2 f2 h2 ⟨GG.al _, by rw [hX]; exact GG.size, by rw [hX]; exact heap_alloc_new w9 _, O2.no ((Frm.refl No w9).al _)⟩
            · go_wp2_with (fail)
              refine ⟨(again_cons (again_of rfl rfl ?_) again_nil), ?_⟩
              · go_simp
              have T3 : (w2.alloc (.cells zlist.toArray 59 (0, 0))).heap[w2.heap.size]? = some (.cells zlist.toArray 59 (0, 0)) := heap_alloc_new w2 _
              have G3 : Frm No W1 (w2.alloc (.cells zlist.toArray 59 (0, 0))) := G2.al _
              have sz3 : w2.heap.size < (w2.alloc (.cells zlist.toArray 59 (0, 0))).heap.size := by simp
              go_wp2_with (fail)
              refine (hput2 _ (RD.no G3)).mono ?_
              rintro e w9 ⟨a2, c2, b2, d2, f2, h2, rfl, o2, fr2⟩
              have GG := G3.trans fr2
              have sg := G3.size
              have T9 := fr2.obj T3 id
              have nT := lt_of_block T3
              have zx : W1.heap.size ≤ w2.heap.size := G2.size
              have zL := HL1.out
              have O2 := o2.mono (G := fun k => w2.heap.size < k) fun k _ hh => by rcases hh with hh | hh; exact hh.elim; have := hh.1; omega
              clear fr2 o2 q0 q1 q2 q3 q4 q5 q6 q7 q8 q9
              go_wp2_with (refine wpList_sto _ rfl (.tmp 13) (.tmp 61) 59 rfl T9 (by kernel_rfl) (by rfl) (set_one a2 (i + 1) c2 b2 d2 f2 h2) rfl rfl ?_)
              intro w8 T8 f8 z8
              have O3 := (O2.frm f8 fun k hk e => by omega).mono (G := fun k => w0.heap.size + 2 < k) fun k _ hh => by omega
              have G8 : Frm No W1 w8 := GG.then f8 fun k hk e => by omega
              go_wp2
              obtain ⟨X, hX⟩ : ∃ X, X = w2.heap.size := ⟨_, rfl⟩
              rw [← hX]
              have key := KEY.out
              exact key X w8 a2 c2 b2 d2 f2 h2 ⟨G8, by rw [hX]; exact zx, by rw [hX]; exact T8, O3⟩
          · go_wp2_with (fail)
            refine ⟨(again_cons (again_of rfl rfl ?_) (again_cons (again_of rfl rfl ?_) again_nil)), ?_⟩
            · go_simp
            · go_simp
            go_wp2_with (fail)
            refine (hvy _).mono ?_
            rintro e w2 ⟨rfl, fr2⟩
            have G2 : Frm No W1 w2 := (G1.al _).trans fr2
            have T2 : w2.heap[w1.heap.size]? = some (.cells zlist.toArray 59 (0, 0)) := fr2.obj (heap_alloc_new w1 _) id
            have Bw2 := G2.obj BD1 id
            have xw2 : w2.cell? ⟨bl, ol + (kk - 1 - i), none⟩ = some (.int .i64 y) := (G2.cell (p := ⟨bl, ol + (kk - 1 - i), none⟩) hblr1 id).trans x1
            clear q0 q1 q2 q3 q4 q5 q6 q7 q8 q9
            obtain ⟨q0, q1, q2, q3, q4, q5, q6, q7, q8, q9⟩ := obj10 Bw2
            have nw2 := lt_of_block Bw2
            have mw2 : bl < w2.heap.size := Nat.lt_of_lt_of_le hblr1 G2.size
            go_wp2_with (fail)
            refine ⟨(again_cons (again_of rfl rfl ?_) again_nil), ?_⟩
            · go_simp
            go_wp2_with (fail)
            refine (hput2 _ (RD.no G2)).mono ?_
            rintro e w9 ⟨a2, c2, b2, d2, f2, h2, rfl, o2, fr2⟩
            have GG := G2.trans fr2
            have sg := G2.size
            have T9 := fr2.obj T2 id
            have nT := lt_of_block T2
            have zx : W1.heap.size ≤ w1.heap.size := G1.size
            have zL := HL1.out
            have O2 := o2.mono (G := fun k => w1.heap.size < k) fun k _ hh => by rcases hh with hh | hh; exact hh.elim; have := hh.1; omega
            clear fr2 o2 q0 q1 q2 q3 q4 q5 q6 q7 q8 q9
            go_wp2_with (refine wpList_sto _ rfl (.tmp 13) (.tmp 61) 59 rfl T9 (by kernel_rfl) (by rfl) (set_one a2 (i + 1) c2 b2 d2 f2 h2) rfl rfl ?_)
            intro w8 T8 f8 z8
            have O3 := (O2.frm f8 fun k hk e => by omega).mono (G := fun k => w0.heap.size + 2 < k) fun k _ hh => by omega
            have G8 : Frm No W1 w8 := GG.then f8 fun k hk e => by omega
            go_wp2
            obtain ⟨X, hX⟩ : ∃ X, X = w1.heap.size := ⟨_, rfl⟩
            rw [← hX]
            have key := KEY.out
            exact key X w8 a2 c2 b2 d2 f2 h2 ⟨G8, by rw [hX]; exact zx, by rw [hX]; exact T8, O3⟩
        · go_wp2_with (fail)
          refine ⟨(again_cons (again_of rfl rfl ?_) (again_cons (again_of rfl rfl ?_) again_nil)), ?_⟩
          · go_simp
          · go_simp
          go_wp2_with (fail)
          refine (dot9_ok (kk - 1 - i) (by omega) _).mono ?_
          rintro e w1 ⟨rfl, fr1⟩
          have G1 : Frm No W1 w1 := ((Frm.refl No W1).al _).trans ((Frm.drew No _).trans fr1)
          have T1 : w1.heap[W1.heap.size]? = some (.cells zlist.toArray 59 (0, 0)) := fr1.obj (heap_alloc_new W1 _) id
          have Bw1 := G1.obj BD1 id
          have xw1 : w1.cell? ⟨bl, ol + (kk - 1 - i), none⟩ = some (.int .i64 y) := (G1.cell (p := ⟨bl, ol + (kk - 1 - i), none⟩) hblr1 id).trans x1
          clear q0 q1 q2 q3 q4 q5 q6 q7 q8 q9
          obtain ⟨q0, q1, q2, q3, q4, q5, q6, q7, q8, q9⟩ := obj10 Bw1
          have nw1 := lt_of_block Bw1
          have mw1 : bl < w1.heap.size := Nat.lt_of_lt_of_le hblr1 G1.size
          go_wp2_with (fail)
          refine ⟨(again_cons (again_of rfl rfl ?_) (again_cons (again_of rfl rfl ?_) again_nil)), ?_⟩
          · go_simp
          · go_simp
          go_wp2_with (fail)
          refine (hvy _).mono ?_
          rintro e w2 ⟨rfl, fr2⟩
          have G2 := G1.trans fr2
          have T2 := fr2.obj T1 id
          have Bw2 := G2.obj BD1 id
          have xw2 : w2.cell? ⟨bl, ol + (kk - 1 - i), none⟩ = some (.int .i64 y) := (G2.cell (p := ⟨bl, ol + (kk - 1 - i), none⟩) hblr1 id).trans x1
          clear q0 q1 q2 q3 q4 q5 q6 q7 q8 q9
          obtain ⟨q0, q1, q2, q3, q4, q5, q6, q7, q8, q9⟩ := obj10 Bw2
          have nw2 := lt_of_block Bw2
          have mw2 : bl < w2.heap.size := Nat.lt_of_lt_of_le hblr1 G2.size
          go_wp2_with (fail)
          refine ⟨(again_cons (again_of rfl rfl ?_) again_nil), ?_⟩
          · go_simp
          go_wp2_with (fail)
          refine (hput2 _ (RD.no G2)).mono ?_
          rintro e w9 ⟨a2, c2, b2, d2, f2, h2, rfl, o2, fr2⟩
          have GG := G2.trans fr2
          have sg := G2.size
          have T9 := fr2.obj T2 id
          have nT := lt_of_block T2
          have zx : W1.heap.size ≤ W1.heap.size := Nat.le_refl _
          have zL := HL1.out
          have O2 := o2.mono (G := fun k => W1.heap.size < k) fun k _ hh => by rcases hh with hh | hh; exact hh.elim; have := hh.1; omega
          clear fr2 o2 q0 q1 q2 q3 q4 q5 q6 q7 q8 q9
          go_wp2_with (refine wpList_sto _ rfl (.tmp 13) (.tmp 61) 59 rfl T9 (by kernel_rfl) (by rfl) (set_one a2 (i + 1) c2 b2 d2 f2 h2) rfl rfl ?_)
          intro w8 T8 f8 z8
          have O3 := (O2.frm f8 fun k hk e => by omega).mono (G := fun k => w0.heap.size + 2 < k) fun k _ hh => by omega
          have G8 : Frm No W1 w8 := GG.then f8 fun k hk e => by omega
          go_wp2
          obtain ⟨X, hX⟩ : ∃ X, X = W1.heap.size := ⟨_, rfl⟩
          rw [← hX]
          have key := KEY.out
          exact key X w8 a2 c2 b2 d2 f2 h2 ⟨G8, by rw [hX]; exact zx, by rw [hX]; exact T8, O3⟩
      intro Y W2 a2 c2 b2 d2 f2 g2 hF
      obtain ⟨GY, zY, BY, OY⟩ := hF
      have G2 := G0.trans GY
      have BX2 := GY.obj BX id
      have OX2 := OX.no GY
      have BU2 := G2.obj BU id
      have BD2 := G2.obj BD id
      have BL2 := G2.obj BL id
      have OG2 := OG.no G2
      have y1 : W2.cell? ⟨bl, ol + i, none⟩ = some (.int .i64 x) := (G2.cell (p := ⟨bl, ol + i, none⟩) hblr id).trans e1
      have hblr2 : bl < W2.heap.size := Nat.lt_of_lt_of_le hblr G2.size
      refine HNN.out _ _ ?_
      clear HNN hvy hput2 OD OD1 RD BU1 BD1 BL1 nD nL1 nX1 x1 e1 e2 BU BD BL nU nL OG
      have zL := HL.out
      have zX2 : w0.heap.size + 2 < X := by omega
      have zY2 : w0.heap.size + 2 < Y := by have := G0.size; omega
      have lX := lt_of_block BX2
      have lU := lt_of_block BU2
      have lD := lt_of_block BD2
      have lY := lt_of_block BY
      obtain ⟨q0, q1, q2, q3, q4, q5, q6, q7, q8, q9⟩ := obj10 BX2
      go_wp2_with (first | (go_at_call 23; refine (num_ok _ _).mono ?_; rintro e w' ⟨rfl, rfl⟩) | (refine wpList_sto _ rfl (.tmp 6) (.tmp 71) 59 rfl BU2 (by kernel_rfl) (by rfl) (set_one a1 (i + 1) c1 b1 d1 f1 g1) rfl rfl ?_))
      intro w3 T3 f3 z3
      clear q0 q1 q2 q3 q4 q5 q6 q7 q8 q9 lX lU lD lY
      have BY3 := f3.obj BY (by show ¬ Y = _; omega)
      have BD3 := f3.obj BD2 (by show ¬ _ = _; omega)
      have lY := lt_of_block BY3
      have lD := lt_of_block BD3
      obtain ⟨q0, q1, q2, q3, q4, q5, q6, q7, q8, q9⟩ := obj10 BY3
      go_wp2_with (refine wpList_sto _ rfl (.tmp 7) (.tmp 72) 59 rfl BD3 (by kernel_rfl) (by rfl) (set_one a2 (i + 1) c2 b2 d2 f2 g2) rfl rfl ?_)
      intro w4 T4 f4 z4
      clear q0 q1 q2 q3 q4 q5 q6 q7 q8 q9 lY lD BY3
      have U4 := f4.obj T3 (by show ¬ _ = _; omega)
      have BL4 := f4.obj (f3.obj BL2 (by show ¬ _ = _; omega)) (by show ¬ _ = _; omega)
      have y4 : w4.cell? ⟨bl, ol + i, none⟩ = some (.int .i64 x) := ((f4.cell (p := ⟨bl, ol + i, none⟩) (Nat.lt_of_lt_of_le hblr2 f3.size) (by show ¬ bl = _; omega)).trans (f3.cell (p := ⟨bl, ol + i, none⟩) hblr2 (by show ¬ bl = _; omega))).trans y1
      have hblr4 : bl < w4.heap.size := Nat.lt_of_lt_of_le hblr2 (Nat.le_trans f3.size f4.size)
      have G4 : Frm (fun k => w0.heap.size ≤ k) wr w4 := ((G2.mono (G := fun k => w0.heap.size ≤ k) fun _ _ h => h.elim).then f3 fun k _ e => by show w0.heap.size ≤ k; omega).then f4 fun k _ e => by show w0.heap.size ≤ k; omega
      have OU4 := (OX2.frm f3 fun k hk e => by omega).frm f4 fun k hk e => by omega
      have OD4 := (OY.frm f3 fun k hk e => by omega).frm f4 fun k hk e => by omega
      have OG4 := (OG2.frm f3 fun k hk e => by omega).frm f4 fun k hk e => by omega
      clear OX2 OY OG2 OX f3 f4 T3
      have hb7 : bits .and .i64 x 7 = ((pa : Nat) : Int) := by rw [and_7]; have := HPX.out; omega
      have hV : Hid (fV i = pa) := Lib.hid (by rw [hfV.out]; simp only; rw [List.getD_eq_getElem?_getD, List.getElem?_eq_getElem l1, Option.getD_some, ← hx.out, HPX.out])
      have zG := hG.out
      cases hbit : (bits .and .i64 (drops / 2 ^ i) 1 == 1) with
      | true =>
        have hB : Hid (bitF i = true) := Lib.hid (by rw [hbitF.out]; exact hbit)
        go_wp2_with (fail)
        refine (dot9_ok i (by omega) _).mono ?_
        rintro e w5 ⟨rfl, fr5⟩
        have OG5 := OG4.no fr5
        have hgl : (goneL bitF i).length ≤ i := goneL_le _ _
        go_wp2_with (at_builtin; refine wpList_ap _ rfl (.tmp 78) (.tmp 81) 62 62 rfl 61 _ 16 Try.underlying62 i_dt rfl (OG5.ty.al _) ((RdS.litg _ eDt (dt9 i) _ (g := w5.heap.size) rfl).src Try.underlying62) rfl rfl rfl ?c1 ?c2 ?_)
        case c1 => unfold maxLen; omega
        case c2 => omega
        intro a7 c7 w7 o7 f7
        have fr7 := ((Frm.refl (Ty w5 61 fun k => w0.heap.size + 2 < k) w5).al _).trans f7
        have OU7 := (OU4.no fr5).tyfrm fr7
        have OD7 := (OD4.no fr5).tyfrm fr7
        have U7 := fr7.obj (fr5.obj U4 id) fun e => by have := e.1; omega
        have D7 := fr7.obj (fr5.obj T4 id) fun e => by have := e.1; omega
        have L7 := fr7.obj (fr5.obj BL4 id) fun e => by have := e.1; omega
        have G7 := G4.trans ((fr5.mono (G := fun k => w0.heap.size ≤ k) fun _ _ h => h.elim).trans (fr7.mono (G := fun k => w0.heap.size ≤ k) fun k _ e => by have := e.1; omega))
        have zz : w0.heap.size + 2 < w4.heap.size := lt_of_block BL4
        have s5 : w4.heap.size ≤ w5.heap.size := fr5.size
        replace o7 := o7.mono (G := fun k => w0.heap.size + 2 < k) fun k _ hh => by rcases hh with hh | hh; exact hh.1; have := hh.1; simp at this; omega
        rw [show goneL bitF i ++ [dt9 i] = goneL bitF (i + 1) by rw [goneL_succ, hB.out, if_pos rfl]] at o7
        go_wp2
        go_roundg (kk - (i + 1) + 1)
        case measure => omega
        case rel =>
          refine ⟨i + 1, a1, c1, b1, d1, f1, g1, a2, c2, b2, d2, f2, g2, a7, _, c7, lb, rfl, by go_num, by omega, rfl, U7, D7, L7, HLB.out, fun a ha => ?_, OU7, OD7, o7, FR.trans G7⟩
          rw [HLF.out a ha, leftF_succ, hB.out]
          simp
      | false =>
        have hB : Hid (bitF i = false) := Lib.hid (by rw [hbitF.out]; exact hbit)
        have hlen := HLB.out
        have hpl : pa < lb.length := by omega
        have l4 : w4.cell? ⟨w0.heap.size + 1 + 1, pa, none⟩ = some (.bool lb[pa]) := by
          have := obj_cell BL4 pa
          simpa [boolC, hpl] using this
        have l5 : w4.frozen? ⟨w0.heap.size + 1 + 1, pa, none⟩ = false := obj_frz BL4 pa
        have lL := lt_of_block BL4
        go_wp2_with (fail)
        go_wp2
        go_roundg (kk - (i + 1) + 1)
        case measure => omega
        case rel =>
          refine ⟨i + 1, a1, c1, b1, d1, f1, g1, a2, c2, b2, d2, f2, g2, ga, gn, gc, lb.set pa true, rfl, by go_num, by omega, rfl, obj_setCell_ne U4 (by omega) _, obj_setCell_ne T4 (by omega) _, ?_, by rw [List.length_set]; exact HLB.out, fun a ha => ?_,
            OU4.frm (Frm.setCell (F := fun k => k = w0.heap.size + 2) w4 _ _ rfl) fun k hk e => by omega, OD4.frm (Frm.setCell (F := fun k => k = w0.heap.size + 2) w4 _ _ rfl) fun k hk e => by omega, ?_, FR.trans (G4.trans ?_)⟩
          · rw [show boolC (lb.set pa true) = (boolC lb).setIfInBounds pa (.bool true) by simp [boolC, List.map_set]]
            exact obj_setCell BL4 _
          · rw [leftF_succ, hB.out, List.getD_eq_getElem?_getD, List.getElem?_set, hV.out, ← HLF.out a ha]
            by_cases e : pa = a
            · subst e; simp [hpl]
            · simp [e, List.getD_eq_getElem?_getD]
          · have := OG4.frm (Frm.setCell (F := fun k => k = w0.heap.size + 2) w4 ⟨w0.heap.size + 2, pa, none⟩ (.bool true) rfl) fun k hk e => by omega
            rw [goneL_succ, hB.out, if_neg (by decide), List.append_nil]
            exact this
          · exact Frm.setCell w4 ⟨w0.heap.size + 1 + 1, pa, none⟩ (.bool true) (show w0.heap.size ≤ w0.heap.size + 1 + 1 by omega)
    · have hik : i = kk := by omega
      subst hik
      clear hL0
      have lU := lt_of_block BU
      have lD := lt_of_block BD
      obtain ⟨q0, q1, q2, q3, q4, q5, q6, q7, q8, q9⟩ := obj10 BU
      have hll := left_len fT bitF i
      have hgn := Lib.hid OG.cap.1
      go_wp2_with (fail)
      refine (set_drop OU.rd (by rw [addL_len]; omega) OG.rd (i - (goneL bitF i).length) (by omega)).mono ?_
      rintro e w1 ⟨a3, m3, b3, d3, f3, g3, rfl, o3, fr3⟩
      clear q0 q1 q2 q3 q4 q5 q6 q7 q8 q9
      go_wp2_with (refine wpList_sto _ rfl (.tmp 15) (.tmp 93) 59 rfl (heap_alloc_new w1 _) (by kernel_rfl) (by rfl) (set_one a3 (i - (goneL bitF i).length) m3 b3 d3 f3 g3) rfl rfl ?_)
      intro w2 T2 f2 z2
      have G12 : Frm No w1 w2 := ((Frm.refl No w1).al _).then f2 fun k hk e => by omega
      have G2 : Frm No wr w2 := fr3.trans G12
      have R2 := o3.rd.no G12
      have OU2 := OU.rd.no G2
      have OD2 := OD.rd.no G2
      have BU2 := G2.obj BU id
      have BD2 := G2.obj BD id
      have BL2 := G2.obj BL id
      clear f2 z2 G12 o3 fr3 OU OD BU BD BL lU lD OG
      obtain ⟨q0, q1, q2, q3, q4, q5, q6, q7, q8, q9⟩ := obj10 T2
      go_wp2_with (fail)
      refine (set_values R2 (by have := hll; omega) _ rfl).mono ?_
      rintro e w3 ⟨av, mv, rfl, ov, fr3⟩
      clear q0 q1 q2 q3 q4 q5 q6 q7 q8 q9 R2
      have T3 := fr3.obj T2 id
      have BL3 := fr3.obj BL2 id
      have OV := ov.rd
      have G3 : Frm (fun k => w0.heap.size ≤ k) w0 w3 := FR.trans ((G2.trans fr3).mono fun _ _ h => h.elim)
      have OU3 := OU2.no fr3
      have OD3 := OD2.no fr3
      have BU3 := fr3.obj BU2 id
      have BD3 := fr3.obj BD2 id
      clear OU2 OD2 BU2 BD2 BL2 T2 ov fr3 G2 FR
      go_wp2
      go_loopg [19, 20] (8 + 1) (fun g2 xv jv wx => ∃ (j : Nat) (aw : Option Addr) (nw cw : Nat), xv = .slice aw nw cw ∧ jv = .int .i64 j ∧ j ≤ 8 ∧ g2 = 8 - j + 1 ∧ Ow wx (fun k => w3.heap.size ≤ k) 9 eStr (.slice aw nw cw) (wantL (leftF bitF fV i) j) ∧ Frm (fun k => w3.heap.size ≤ k) w3 wx)
      case atStart => exact ⟨0, none, 0, 0, rfl, rfl, Nat.zero_le _, by omega, Ow.nil _ _ _ _ _, Frm.refl _ _⟩
      case round =>
        obtain ⟨j, aw, nw, cw, rfl, rfl, hj, hg2, OW, FX⟩ := hrel
        have hG2 := Lib.hid hg2
        clear hg2
        have hlen := HLB.out
        by_cases hj8 : j < 8
        · have BLx := FX.obj BL3 (by show ¬ _ ≤ _; have := lt_of_block BL3; omega)
          have lL := lt_of_block BLx
          have hjl : j < lb.length := by omega
          have hj8' : (j : Int) < 8 := by omega
          have l4 : wr.cell? ⟨w0.heap.size + 1 + 1, j, none⟩ = some (.bool lb[j]) := by
            have := obj_cell BLx j
            simpa [boolC, hjl] using this
          have hlf : lb[j] = leftF bitF fV i j := by
            have := HLF.out j hj8
            rwa [List.getD_eq_getElem?_getD, List.getElem?_eq_getElem hjl, Option.getD_some] at this
          rw [hlf] at l4
          clear hlf
          have zG2 := hG2.out
          obtain ⟨pj, hpj, hpj2, hvj⟩ := value_all (j : Int)
          obtain rfl : pj = j := by omega
          have hwl := wantL_le (leftF bitF fV i) pj
          clear hpj2
          cases hcb : leftF bitF fV i pj with
          | true =>
            have HCB := Lib.hid hcb
            rw [hcb] at l4
            clear hcb
            go_wp2_with (fail)
            refine (hvj _).mono ?_
            rintro e w5 ⟨rfl, fr5⟩
            have s5 : wr.heap.size ≤ w5.heap.size := fr5.size
            have s3 : w3.heap.size ≤ wr.heap.size := FX.size
            go_wp2_with (at_builtin; refine wpList_ap _ rfl (.tmp 107) (.tmp 110) 45 45 rfl 9 _ 16 Try.underlying45 i_str rfl ((OW.no fr5).al _) ((RdS.litg _ eStr (vB pj) _ (g := w5.heap.size) rfl).src Try.underlying45) rfl rfl rfl ?c1 ?c2 ?_)
            case c1 => unfold maxLen; omega
            case c2 => omega
            intro a7 c7 w7 o7 f7
            replace o7 := o7.mono (G := fun k => w3.heap.size ≤ k) fun k _ hh => by rcases hh with hh | hh; exact hh; have := hh.1; simp at this; omega
            rw [show wantL (leftF bitF fV i) pj ++ [vB pj] = wantL (leftF bitF fV i) (pj + 1) by rw [wantL_succ, HCB.out, if_pos rfl]] at o7
            have F7 : Frm (fun k => w3.heap.size ≤ k) w3 w7 := FX.trans (((fr5.mono (G := fun k => w3.heap.size ≤ k) fun _ _ h => h.elim).al _).trans f7)
            go_wp2
            go_roundg (8 - (pj + 1) + 1)
            case measure => omega
            case rel => exact ⟨pj + 1, a7, _, c7, rfl, by go_num, by omega, rfl, o7, F7⟩
          | false =>
            have HCB := Lib.hid hcb
            rw [hcb] at l4
            clear hcb
            go_wp2
            go_roundg (8 - (pj + 1) + 1)
            case measure => omega
            case rel =>
              refine ⟨pj + 1, aw, nw, cw, rfl, by go_num, by omega, rfl, ?_, FX⟩
              rw [wantL_succ, HCB.out, if_neg (by decide), List.append_nil]
              exact OW
        · obtain rfl : j = 8 := by omega
          have FB := FX.below (B := w3.heap.size) (fun _ hk h => by omega) (Nat.le_refl _)
          have OU5 := OU3.below (B := 0) FB
          have OD5 := OD3.below (B := 0) FB
          rw [rows_one] at OD5
          have OV5 := OV.below FB fun _ hg => OV.blk_lt hg
          have OW5 := OW.rd
          have hne : ∀ b, b < w3.heap.size → ¬ w3.heap.size ≤ b := fun b h => by omega
          have BU5 := FX.obj BU3 (hne _ (lt_of_block BU3))
          have BD5 := FX.obj BD3 (hne _ (lt_of_block BD3))
          have T5 := FX.obj T3 (hne _ (lt_of_block T3))
          have hW := want_ok fT fV bitF i (fun m _ => by rw [hfV.out]; simp only; omega) (fun m _ => by rw [hfT.out, hfV.out])
          have HW := Lib.hid hW
          clear hW OU3 OD3 OV OW BU3 BD3 T3 hlen
          obtain ⟨q0, q1, q2, q3, q4, q5, q6, q7, q8, q9⟩ := obj10 BU5
          obtain ⟨p0, p1, p2, p3, p4, p5, p6, p7, p8, p9⟩ := obj10 BD5
          have lU := lt_of_block BU5
          have lD := lt_of_block BD5
          go_wp2_with (fail)
          refine (sameCell_ok OU5 OD5).mono ?_
          rintro e w5 ⟨rfl, fr5⟩
          have T6 := fr5.obj T5 id
          have q7' := obj_cell T6 7
          have lT := lt_of_block T6
          simp only [List.getElem?_toArray, List.getElem?_cons_succ, List.getElem?_cons_zero] at q7'
          clear q0 q1 q2 q3 q4 q5 q6 q7 q8 q9 p0 p1 p2 p3 p4 p5 p6 p7 p8 p9
          go_wp2_with (first | (go_at_call 23; refine (num_ok _ _).mono ?_; rintro e w' ⟨rfl, rfl⟩) | (fail))
          refine (sameTexts_ok (OV5.no fr5) (OW5.no fr5)).mono ?_
          rintro e w6 ⟨rfl, m6, hw6⟩
          rw [decide_eq_true HW.out]
          have fr6 : Frm No w5 w6 := by rw [hw6]; exact Frm.drewN _ _ _
          clear hw6
          have G5 : Frm (fun k => w0.heap.size ≤ k) w0 w6 := G3.trans ((FX.mono (G := fun k => w0.heap.size ≤ k) fun k hk h => by have := G3.size; omega).trans ((fr5.trans fr6).mono fun _ _ h => h.elim))
          have q7 := (fr6.cell (p := ⟨w1.heap.size, 7, none⟩) lT id).trans q7'
          have lT6 : w1.heap.size < w6.heap.size := Nat.lt_of_lt_of_le lT fr6.size
          have hlen : ((i - (goneL bitF i).length : Nat) : Int) = (i : Int) - (gn : Int) := by have := hgn.out; omega
          clear q7' FX fr5 fr6 T5 T6 lT OW5 OV5 OU5 OD5 hll
          go_wp2_with (fail)
          go_ret
          exact ⟨rfl, (F0.then G5 fun k hk h => by omega).below (fun _ _ h => h) (Nat.le_refl _)⟩
end Go.Proofs.Ytheejjifcpjdbaa

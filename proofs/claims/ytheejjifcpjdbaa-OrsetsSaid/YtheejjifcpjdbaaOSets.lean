/- tattlelaw9.Orsets answers true, for every input. -/
import Derived.Test.YtheejjifcpjdbaaBoth
import Derived.Test.YtheejjifcpjdbaaAwake9
import Derived.Test.YtheejjifcpjdbaaLend
import Derived.Test.YtheejjifcpjdbaaSpoil2
import Derived.Test.YtheejjifcpjdbaaSameCell
namespace Go.Proofs.Ytheejjifcpjdbaa
set_option linter.unusedVariables false
set_option linter.unusedSimpArgs false
open Go.RowKit Go.Lib Go.Tt
theorem CellO.no {w w' : World} {F : Nat → Prop} {c : CellV} {ve vl vs : Value} (h : CellO w F c ve vl vs) (f : Frm No w w') : CellO w' F c ve vl vs := h.frm f fun _ _ h => h
/-- A range of blocks. -/
def Rg (a b k : Nat) : Prop := a ≤ k ∧ k < b
theorem CellO.rg {w w' : World} {c : CellV} {ve vl vs : Value} (h : CellO w' (Nw No w w') c ve vl vs) : CellO w' (Rg w.heap.size w'.heap.size) c ve vl vs := h.mono fun k hk hh => by rcases hh with hh | hh; exact hh.elim; exact hh
theorem CellO.rg2 {w w' : World} {c : CellV} {ve vl vs : Value} {n : Nat} (h : CellO w' (Nw No w w') c ve vl vs) (hn : n ≤ w.heap.size) : CellO w' (Rg n w'.heap.size) c ve vl vs := h.rg.mono fun k _ hh => ⟨Nat.le_trans hn hh.1, hh.2⟩
theorem owRg {α : Type} {w w' : World} {e : TypeId} {E : Enc α} {v : Value} {l : List α} (h : Ow w' (Nw No w w') e E v l) : Ow w' (Rg w.heap.size w'.heap.size) e E v l := h.mono fun k hk hh => by rcases hh with hh | hh; exact hh.elim; exact hh
set_option maxHeartbeats 8000000 in
set_option maxRecDepth 100000 in
theorem orsets_walk (w : World) {c : CellV} {ve vl vs : Value} (h : CellR w c ve vl vs) (hb : CellB c) (d : Dt) {ad : Option Addr} {nd cd : Nat} {ds : List Dt} (hd : RdS w eDt (.slice ad nd cd) ds) (hdb : ds.length * 16 ≤ reachBytes) (v : ByteArray) (hv : v.size ≤ maxLen) :
    Calls Try.prog 8 #[cval c ve vl vs, .agg #[.int .i64 d.1, .int .i64 d.2], .slice ad nd cd, .string v] w fun e w' => e = .returned (.bool true) ∧ Below w.heap.size w w' := by
  obtain ⟨c1, c2, rfl⟩ := h.e.sh
  obtain ⟨c3, c4, rfl⟩ := h.l.sh
  obtain ⟨c5, c6, rfl⟩ := h.s.sh
  obtain ⟨A, EA, hput, hput'⟩ := put_both (d := d) hv hb
  obtain ⟨D, ED, hdrop, hdrop'⟩ := drop_both (ds := ds) hb
  obtain ⟨L, EL, hval, hval'⟩ := vals_both hb
  obtain ⟨M, EM, hdot, hdot'⟩ := dots_both hb v
  have HB := Lib.hid hb
  have HDB := Lib.hid hdb
  have F00 : Frm No w w := Frm.refl No w
  unfold cval
  clear hb hdb
  have HR0 := Lib.hid h
  have HD0 := Lib.hid hd
  have R0 := h
  have DS0 := hd
  clear h hd
  go_enter Try.func8, Try.ntmps8
  go_wp2_with (fail)
  have G0 : Frm No w ((w.alloc (.cells #[.int .i64 c.kind, .bool c.set, .int .i64 c.st.1, .int .i64 c.st.2, .string c.value, .int .i64 c.num.1, .int .i64 c.num.2, .slice c1 c.ents.length c2, .slice c3 c.elems.length c4, .slice c5 c.seen.length c6] 59 (0, 0))).alloc (.cells #[.int .i64 d.1, .int .i64 d.2] 61 (0, 0))) := ((Frm.refl No w).al _).al _
  refine (copyCell_ok (R0.no G0) HB.out).mono ?_
  rintro e w1 ⟨ve, vl, vs, rfl, o, fr⟩
  obtain ⟨x1, x2, rfl⟩ := o.e.sh
  obtain ⟨x3, x4, rfl⟩ := o.l.sh
  obtain ⟨x5, x6, rfl⟩ := o.s.sh
  unfold cval
  have G := (G0.trans fr)
  have s1 := G.size
  have R1 := R0.no G
  have DS1 := DS0.no G
  clear G R0 DS0
  have F1 := F00.trans (G0.trans fr)
  have Bc1 : w1.heap[w.heap.size]? = some (.cells #[.int .i64 c.kind, .bool c.set, .int .i64 c.st.1, .int .i64 c.st.2, .string c.value, .int .i64 c.num.1, .int .i64 c.num.2, .slice c1 c.ents.length c2, .slice c3 c.elems.length c4, .slice c5 c.seen.length c6] 59 (0, 0)) := fr.obj (al_old (heap_alloc_new w _)) id
  have Bd1 : w1.heap[w.heap.size + 1]? = some (.cells #[.int .i64 d.1, .int .i64 d.2] 61 (0, 0)) := fr.obj (al_at (by simp)) id
  have l1 := lt_of_block Bd1
  have OX1 := o.rg2 (n := w.heap.size + 2) (by simp)
  clear fr o G0
  go_wp2_with (fail)
  refine (lendDots_ok DS1 HDB.out).mono ?_
  rintro e w2 ⟨y1, y2, rfl, o, fr⟩
  have G := (fr)
  have s2 := G.size
  have R2 := R1.no G
  have DS2 := DS1.no G
  have Bc2 := G.obj Bc1 id
  have Bd2 := G.obj Bd1 id
  have OX2 := OX1.no G
  clear G R1 DS1 Bc1 Bd1 OX1
  have F2 := F1.trans fr
  have OY2 := owRg o
  clear fr o
  have u0 : _ = some (Value.int .i64 d.1) := obj_cell Bd2 0
  have u1 : _ = some (Value.int .i64 d.2) := obj_cell Bd2 1
  have lt_d := lt_of_block Bd2
  go_wp2_with (fail)
  have G2 : Frm No w2 (w2.alloc (.cells #[.int .i64 c.kind, .bool c.set, .int .i64 c.st.1, .int .i64 c.st.2, .string c.value, .int .i64 c.num.1, .int .i64 c.num.2, .slice x1 c.ents.length x2, .slice x3 c.elems.length x4, .slice x5 c.seen.length x6] 59 (0, 0))) := (Frm.refl No w2).al _
  refine (hput _ _ _ _ (OX2.no G2).rd).mono ?_
  rintro e w3 ⟨ve, vl, vs, rfl, o, fr⟩
  obtain ⟨a1, a2, rfl⟩ := o.e.sh
  obtain ⟨a3, a4, rfl⟩ := o.l.sh
  obtain ⟨a5, a6, rfl⟩ := o.s.sh
  unfold cval
  clear u0 u1 lt_d
  have oA := o.rg2 (n := w2.heap.size + 1) (by simp)
  have bx := fr.obj (heap_alloc_new w2 (.cells #[.int .i64 c.kind, .bool c.set, .int .i64 c.st.1, .int .i64 c.st.2, .string c.value, .int .i64 c.num.1, .int .i64 c.num.2, .slice x1 c.ents.length x2, .slice x3 c.elems.length x4, .slice x5 c.seen.length x6] 59 (0, 0))) id
  have G := (G2.trans fr)
  have s3 := G.size
  have R3 := R2.no G
  have DS3 := DS2.no G
  have Bc3 := G.obj Bc2 id
  have Bd3 := G.obj Bd2 id
  have OX3 := OX2.no G
  have OY3 := OY2.no G
  clear G R2 DS2 Bc2 Bd2 OX2 OY2
  have F3 := F2.trans (G2.trans fr)
  have Bx3 : w3.heap[w2.heap.size]? = some (.cells #[.int .i64 c.kind, .bool c.set, .int .i64 c.st.1, .int .i64 c.st.2, .string c.value, .int .i64 c.num.1, .int .i64 c.num.2, .slice x1 c.ents.length x2, .slice x3 c.elems.length x4, .slice x5 c.seen.length x6] 59 (0, 0)) := bx
  have OA3 := oA
  have l3 := lt_of_block Bx3
  clear fr o bx oA G2
  obtain ⟨vc0, vc1, vc2, vc3, vc4, vc5, vc6, vc7, vc8, vc9⟩ := obj10 Bc3
  have lt_c := lt_of_block Bc3
  have u0 : _ = some (Value.int .i64 d.1) := obj_cell Bd3 0
  have u1 : _ = some (Value.int .i64 d.2) := obj_cell Bd3 1
  have lt_d := lt_of_block Bd3
  go_wp2_with (fail)
  have G3 : Frm No w3 (w3.alloc (.cells #[.int .i64 A.kind, .bool A.set, .int .i64 A.st.1, .int .i64 A.st.2, .string A.value, .int .i64 A.num.1, .int .i64 A.num.2, .slice a1 A.ents.length a2, .slice a3 A.elems.length a4, .slice a5 A.seen.length a6] 59 (0, 0))) := (Frm.refl No w3).al _
  refine (hput' _ _ _ _ (R3.no G3)).mono ?_
  rintro e w4 ⟨ve, vl, vs, rfl, o, fr⟩
  obtain ⟨b1, b2, rfl⟩ := o.e.sh
  obtain ⟨b3, b4, rfl⟩ := o.l.sh
  obtain ⟨b5, b6, rfl⟩ := o.s.sh
  unfold cval
  clear vc0 vc1 vc2 vc3 vc4 vc5 vc6 vc7 vc8 vc9 lt_c u0 u1 lt_d
  have rB := o.rd
  have bx := fr.obj (heap_alloc_new w3 (.cells #[.int .i64 A.kind, .bool A.set, .int .i64 A.st.1, .int .i64 A.st.2, .string A.value, .int .i64 A.num.1, .int .i64 A.num.2, .slice a1 A.ents.length a2, .slice a3 A.elems.length a4, .slice a5 A.seen.length a6] 59 (0, 0))) id
  have G := (G3.trans fr)
  have s4 := G.size
  have R4 := R3.no G
  have DS4 := DS3.no G
  have Bc4 := G.obj Bc3 id
  have Bd4 := G.obj Bd3 id
  have OX4 := OX3.no G
  have OY4 := OY3.no G
  have Bx4 := G.obj Bx3 id
  have OA4 := OA3.no G
  clear G R3 DS3 Bc3 Bd3 OX3 OY3 Bx3 OA3
  have F4 := F3.trans (G3.trans fr)
  have Ba4 : w4.heap[w3.heap.size]? = some (.cells #[.int .i64 A.kind, .bool A.set, .int .i64 A.st.1, .int .i64 A.st.2, .string A.value, .int .i64 A.num.1, .int .i64 A.num.2, .slice a1 A.ents.length a2, .slice a3 A.elems.length a4, .slice a5 A.seen.length a6] 59 (0, 0)) := bx
  have RB4 := rB
  clear fr o bx rB G3
  obtain ⟨vx0, vx1, vx2, vx3, vx4, vx5, vx6, vx7, vx8, vx9⟩ := obj10 Bx4
  have lt_x := lt_of_block Bx4
  go_wp2_with (fail)
  have G4 : Frm No w4 (w4.alloc (.cells #[.int .i64 A.kind, .bool A.set, .int .i64 A.st.1, .int .i64 A.st.2, .string A.value, .int .i64 A.num.1, .int .i64 A.num.2, .slice b1 A.ents.length b2, .slice b3 A.elems.length b4, .slice b5 A.seen.length b6] 59 (0, 0))) := (Frm.refl No w4).al _
  refine (hdrop _ _ _ _ _ _ _ (OX4.no G4).rd (RdS_pre (OY4.no G4).rd DS4.facts.1)).mono ?_
  rintro e w5 ⟨ve, vl, vs, rfl, o, fr⟩
  obtain ⟨g1, g2, rfl⟩ := o.e.sh
  obtain ⟨g3, g4, rfl⟩ := o.l.sh
  obtain ⟨g5, g6, rfl⟩ := o.s.sh
  unfold cval
  clear vx0 vx1 vx2 vx3 vx4 vx5 vx6 vx7 vx8 vx9 lt_x
  have oG := o.rg2 (n := w4.heap.size + 1) (by simp)
  have bx := fr.obj (heap_alloc_new w4 (.cells #[.int .i64 A.kind, .bool A.set, .int .i64 A.st.1, .int .i64 A.st.2, .string A.value, .int .i64 A.num.1, .int .i64 A.num.2, .slice b1 A.ents.length b2, .slice b3 A.elems.length b4, .slice b5 A.seen.length b6] 59 (0, 0))) id
  have G := (G4.trans fr)
  have s5 := G.size
  have R5 := R4.no G
  have DS5 := DS4.no G
  have Bc5 := G.obj Bc4 id
  have Bd5 := G.obj Bd4 id
  have OX5 := OX4.no G
  have OY5 := OY4.no G
  have Bx5 := G.obj Bx4 id
  have OA5 := OA4.no G
  have Ba5 := G.obj Ba4 id
  have RB5 := RB4.no G
  clear G R4 DS4 Bc4 Bd4 OX4 OY4 Bx4 OA4 Ba4 RB4
  have F5 := F4.trans (G4.trans fr)
  have Bb5 : w5.heap[w4.heap.size]? = some (.cells #[.int .i64 A.kind, .bool A.set, .int .i64 A.st.1, .int .i64 A.st.2, .string A.value, .int .i64 A.num.1, .int .i64 A.num.2, .slice b1 A.ents.length b2, .slice b3 A.elems.length b4, .slice b5 A.seen.length b6] 59 (0, 0)) := bx
  have OG5 := oG
  clear fr o bx oG G4
  obtain ⟨vc0, vc1, vc2, vc3, vc4, vc5, vc6, vc7, vc8, vc9⟩ := obj10 Bc5
  have lt_c := lt_of_block Bc5
  go_wp2_with (fail)
  have G5 : Frm No w5 (w5.alloc (.cells #[.int .i64 D.kind, .bool D.set, .int .i64 D.st.1, .int .i64 D.st.2, .string D.value, .int .i64 D.num.1, .int .i64 D.num.2, .slice g1 D.ents.length g2, .slice g3 D.elems.length g4, .slice g5 D.seen.length g6] 59 (0, 0))) := (Frm.refl No w5).al _
  refine (hdrop' _ _ _ _ _ _ _ (R5.no G5) (DS5.no G5)).mono ?_
  rintro e w6 ⟨ve, vl, vs, rfl, o, fr⟩
  obtain ⟨i1, i2, rfl⟩ := o.e.sh
  obtain ⟨i3, i4, rfl⟩ := o.l.sh
  obtain ⟨i5, i6, rfl⟩ := o.s.sh
  unfold cval
  clear vc0 vc1 vc2 vc3 vc4 vc5 vc6 vc7 vc8 vc9 lt_c
  have rI := o.rd
  have bx := fr.obj (heap_alloc_new w5 (.cells #[.int .i64 D.kind, .bool D.set, .int .i64 D.st.1, .int .i64 D.st.2, .string D.value, .int .i64 D.num.1, .int .i64 D.num.2, .slice g1 D.ents.length g2, .slice g3 D.elems.length g4, .slice g5 D.seen.length g6] 59 (0, 0))) id
  have G := (G5.trans fr)
  have s6 := G.size
  have R6 := R5.no G
  have DS6 := DS5.no G
  have Bc6 := G.obj Bc5 id
  have Bd6 := G.obj Bd5 id
  have OX6 := OX5.no G
  have OY6 := OY5.no G
  have Bx6 := G.obj Bx5 id
  have OA6 := OA5.no G
  have Ba6 := G.obj Ba5 id
  have RB6 := RB5.no G
  have Bb6 := G.obj Bb5 id
  have OG6 := OG5.no G
  clear G R5 DS5 Bc5 Bd5 OX5 OY5 Bx5 OA5 Ba5 RB5 Bb5 OG5
  have F6 := F5.trans (G5.trans fr)
  have Bg6 : w6.heap[w5.heap.size]? = some (.cells #[.int .i64 D.kind, .bool D.set, .int .i64 D.st.1, .int .i64 D.st.2, .string D.value, .int .i64 D.num.1, .int .i64 D.num.2, .slice g1 D.ents.length g2, .slice g3 D.elems.length g4, .slice g5 D.seen.length g6] 59 (0, 0)) := bx
  have RI6 := rI
  clear fr o bx rI G5
  obtain ⟨vx0, vx1, vx2, vx3, vx4, vx5, vx6, vx7, vx8, vx9⟩ := obj10 Bx6
  have lt_x := lt_of_block Bx6
  go_wp2_with (fail)
  have G6 : Frm No w6 (w6.alloc (.cells #[.int .i64 D.kind, .bool D.set, .int .i64 D.st.1, .int .i64 D.st.2, .string D.value, .int .i64 D.num.1, .int .i64 D.num.2, .slice i1 D.ents.length i2, .slice i3 D.elems.length i4, .slice i5 D.seen.length i6] 59 (0, 0))) := (Frm.refl No w6).al _
  refine (hval _ _ _ _ (OX6.no G6).rd).mono ?_
  rintro e w7 ⟨k1, k2, k3, rfl, o, fr⟩
  clear vx0 vx1 vx2 vx3 vx4 vx5 vx6 vx7 vx8 vx9 lt_x
  have rK := o.rd
  have bx := fr.obj (heap_alloc_new w6 (.cells #[.int .i64 D.kind, .bool D.set, .int .i64 D.st.1, .int .i64 D.st.2, .string D.value, .int .i64 D.num.1, .int .i64 D.num.2, .slice i1 D.ents.length i2, .slice i3 D.elems.length i4, .slice i5 D.seen.length i6] 59 (0, 0))) id
  have G := (G6.trans fr)
  have s7 := G.size
  have R7 := R6.no G
  have DS7 := DS6.no G
  have Bc7 := G.obj Bc6 id
  have Bd7 := G.obj Bd6 id
  have OX7 := OX6.no G
  have OY7 := OY6.no G
  have Bx7 := G.obj Bx6 id
  have OA7 := OA6.no G
  have Ba7 := G.obj Ba6 id
  have RB7 := RB6.no G
  have Bb7 := G.obj Bb6 id
  have OG7 := OG6.no G
  have Bg7 := G.obj Bg6 id
  have RI7 := RI6.no G
  clear G R6 DS6 Bc6 Bd6 OX6 OY6 Bx6 OA6 Ba6 RB6 Bb6 OG6 Bg6 RI6
  have F7 := F6.trans (G6.trans fr)
  have Bi7 : w7.heap[w6.heap.size]? = some (.cells #[.int .i64 D.kind, .bool D.set, .int .i64 D.st.1, .int .i64 D.st.2, .string D.value, .int .i64 D.num.1, .int .i64 D.num.2, .slice i1 D.ents.length i2, .slice i3 D.elems.length i4, .slice i5 D.seen.length i6] 59 (0, 0)) := bx
  have RK7 := rK
  clear fr o bx rK G6
  obtain ⟨vc0, vc1, vc2, vc3, vc4, vc5, vc6, vc7, vc8, vc9⟩ := obj10 Bc7
  have lt_c := lt_of_block Bc7
  go_wp2_with (fail)
  refine (hval' _ _ _ _ R7).mono ?_
  rintro e w8 ⟨o1, o2, o3, rfl, o, fr⟩
  clear vc0 vc1 vc2 vc3 vc4 vc5 vc6 vc7 vc8 vc9 lt_c
  have rO := o.rd
  have G := (fr)
  have s8 := G.size
  have R8 := R7.no G
  have DS8 := DS7.no G
  have Bc8 := G.obj Bc7 id
  have Bd8 := G.obj Bd7 id
  have OX8 := OX7.no G
  have OY8 := OY7.no G
  have Bx8 := G.obj Bx7 id
  have OA8 := OA7.no G
  have Ba8 := G.obj Ba7 id
  have RB8 := RB7.no G
  have Bb8 := G.obj Bb7 id
  have OG8 := OG7.no G
  have Bg8 := G.obj Bg7 id
  have RI8 := RI7.no G
  have Bi8 := G.obj Bi7 id
  have RK8 := RK7.no G
  clear G R7 DS7 Bc7 Bd7 OX7 OY7 Bx7 OA7 Ba7 RB7 Bb7 OG7 Bg7 RI7 Bi7 RK7
  have F8 := F7.trans fr
  have RO8 := rO
  clear fr o rO
  obtain ⟨vx0, vx1, vx2, vx3, vx4, vx5, vx6, vx7, vx8, vx9⟩ := obj10 Bx8
  have lt_x := lt_of_block Bx8
  go_wp2_with (fail)
  refine (hdot _ _ _ _ OX8.rd).mono ?_
  rintro e w9 ⟨e1, e2, e3, rfl, o, fr⟩
  clear vx0 vx1 vx2 vx3 vx4 vx5 vx6 vx7 vx8 vx9 lt_x
  have oQ := owRg o
  have G := (fr)
  have s9 := G.size
  have R9 := R8.no G
  have DS9 := DS8.no G
  have Bc9 := G.obj Bc8 id
  have Bd9 := G.obj Bd8 id
  have OX9 := OX8.no G
  have OY9 := OY8.no G
  have Bx9 := G.obj Bx8 id
  have OA9 := OA8.no G
  have Ba9 := G.obj Ba8 id
  have RB9 := RB8.no G
  have Bb9 := G.obj Bb8 id
  have OG9 := OG8.no G
  have Bg9 := G.obj Bg8 id
  have RI9 := RI8.no G
  have Bi9 := G.obj Bi8 id
  have RK9 := RK8.no G
  have RO9 := RO8.no G
  clear G R8 DS8 Bc8 Bd8 OX8 OY8 Bx8 OA8 Ba8 RB8 Bb8 OG8 Bg8 RI8 Bi8 RK8 RO8
  have F9 := F8.trans fr
  have OQ9 := oQ
  clear fr o oQ
  obtain ⟨vc0, vc1, vc2, vc3, vc4, vc5, vc6, vc7, vc8, vc9⟩ := obj10 Bc9
  have lt_c := lt_of_block Bc9
  go_wp2_with (fail)
  refine (hdot' _ _ _ _ R9).mono ?_
  rintro e w10 ⟨s1, s2, s3, rfl, o, fr⟩
  clear vc0 vc1 vc2 vc3 vc4 vc5 vc6 vc7 vc8 vc9 lt_c
  have rS := o.rd
  have G := (fr)
  have s10 := G.size
  have R10 := R9.no G
  have DS10 := DS9.no G
  have Bc10 := G.obj Bc9 id
  have Bd10 := G.obj Bd9 id
  have OX10 := OX9.no G
  have OY10 := OY9.no G
  have Bx10 := G.obj Bx9 id
  have OA10 := OA9.no G
  have Ba10 := G.obj Ba9 id
  have RB10 := RB9.no G
  have Bb10 := G.obj Bb9 id
  have OG10 := OG9.no G
  have Bg10 := G.obj Bg9 id
  have RI10 := RI9.no G
  have Bi10 := G.obj Bi9 id
  have RK10 := RK9.no G
  have RO10 := RO9.no G
  have OQ10 := OQ9.no G
  clear G R9 DS9 Bc9 Bd9 OX9 OY9 Bx9 OA9 Ba9 RB9 Bb9 OG9 Bg9 RI9 Bi9 RK9 RO9 OQ9
  have F10 := F9.trans fr
  have RS10 := rS
  clear fr o rS hput hput' hdrop hdrop' hval hval' hdot hdot'
  obtain ⟨va0, va1, va2, va3, va4, va5, va6, va7, va8, va9⟩ := obj10 Ba10
  have lt_a := lt_of_block Ba10
  obtain ⟨vb0, vb1, vb2, vb3, vb4, vb5, vb6, vb7, vb8, vb9⟩ := obj10 Bb10
  have lt_b := lt_of_block Bb10
  go_wp2_with (fail)
  refine (sameCell_ok OA10.rd RB10).mono ?_
  rintro e w11 ⟨rfl, fr⟩
  clear va0 va1 va2 va3 va4 va5 va6 va7 va8 va9 lt_a vb0 vb1 vb2 vb3 vb4 vb5 vb6 vb7 vb8 vb9 lt_b
  have G := (fr)
  have s11 := G.size
  have R11 := R10.no G
  have DS11 := DS10.no G
  have Bc11 := G.obj Bc10 id
  have Bd11 := G.obj Bd10 id
  have OX11 := OX10.no G
  have OY11 := OY10.no G
  have Bx11 := G.obj Bx10 id
  have OA11 := OA10.no G
  have Ba11 := G.obj Ba10 id
  have RB11 := RB10.no G
  have Bb11 := G.obj Bb10 id
  have OG11 := OG10.no G
  have Bg11 := G.obj Bg10 id
  have RI11 := RI10.no G
  have Bi11 := G.obj Bi10 id
  have RK11 := RK10.no G
  have RO11 := RO10.no G
  have OQ11 := OQ10.no G
  have RS11 := RS10.no G
  clear G R10 DS10 Bc10 Bd10 OX10 OY10 Bx10 OA10 Ba10 RB10 Bb10 OG10 Bg10 RI10 Bi10 RK10 RO10 OQ10 RS10
  have F11 := F10.trans fr
  clear fr
  obtain ⟨vg0, vg1, vg2, vg3, vg4, vg5, vg6, vg7, vg8, vg9⟩ := obj10 Bg11
  have lt_g := lt_of_block Bg11
  obtain ⟨vi0, vi1, vi2, vi3, vi4, vi5, vi6, vi7, vi8, vi9⟩ := obj10 Bi11
  have lt_i := lt_of_block Bi11
  go_wp2_with (go_at_call 23; refine (num_ok _ _).mono ?_; rintro e w' ⟨rfl, rfl⟩)
  refine (sameCell_ok OG11.rd RI11).mono ?_
  rintro e w12 ⟨rfl, fr⟩
  clear vg0 vg1 vg2 vg3 vg4 vg5 vg6 vg7 vg8 vg9 lt_g vi0 vi1 vi2 vi3 vi4 vi5 vi6 vi7 vi8 vi9 lt_i
  have G := (fr)
  have s12 := G.size
  have R12 := R11.no G
  have DS12 := DS11.no G
  have Bc12 := G.obj Bc11 id
  have Bd12 := G.obj Bd11 id
  have OX12 := OX11.no G
  have OY12 := OY11.no G
  have Bx12 := G.obj Bx11 id
  have OA12 := OA11.no G
  have Ba12 := G.obj Ba11 id
  have RB12 := RB11.no G
  have Bb12 := G.obj Bb11 id
  have OG12 := OG11.no G
  have Bg12 := G.obj Bg11 id
  have RI12 := RI11.no G
  have Bi12 := G.obj Bi11 id
  have RK12 := RK11.no G
  have RO12 := RO11.no G
  have OQ12 := OQ11.no G
  have RS12 := RS11.no G
  clear G R11 DS11 Bc11 Bd11 OX11 OY11 Bx11 OA11 Ba11 RB11 Bb11 OG11 Bg11 RI11 Bi11 RK11 RO11 OQ11 RS11
  have F12 := F11.trans fr
  clear fr
  go_wp2_with (go_at_call 23; refine (num_ok _ _).mono ?_; rintro e w' ⟨rfl, rfl⟩)
  refine (sameTexts_ok RK12 RO12).mono ?_
  rintro e w13 ⟨rfl, kk, hw⟩
  have fr : Frm No w12 w13 := by rw [hw]; exact Frm.drewN No w12 kk
  clear hw
  rw [decide_eq_true (rfl : L = L)]
  have G := (fr)
  have s13 := G.size
  have R13 := R12.no G
  have DS13 := DS12.no G
  have Bc13 := G.obj Bc12 id
  have Bd13 := G.obj Bd12 id
  have OX13 := OX12.no G
  have OY13 := OY12.no G
  have Bx13 := G.obj Bx12 id
  have OA13 := OA12.no G
  have Ba13 := G.obj Ba12 id
  have RB13 := RB12.no G
  have Bb13 := G.obj Bb12 id
  have OG13 := OG12.no G
  have Bg13 := G.obj Bg12 id
  have RI13 := RI12.no G
  have Bi13 := G.obj Bi12 id
  have RK13 := RK12.no G
  have RO13 := RO12.no G
  have OQ13 := OQ12.no G
  have RS13 := RS12.no G
  clear G R12 DS12 Bc12 Bd12 OX12 OY12 Bx12 OA12 Ba12 RB12 Bb12 OG12 Bg12 RI12 Bi12 RK12 RO12 OQ12 RS12
  have F13 := F12.trans fr
  clear fr
  go_wp2_with (go_at_call 23; refine (num_ok _ _).mono ?_; rintro e w' ⟨rfl, rfl⟩)
  refine (sameDots_ok OQ13.rd RS13).mono ?_
  rintro e w14 ⟨rfl, kk, hw⟩
  have fr : Frm No w13 w14 := by rw [hw]; exact Frm.drewN No w13 kk
  clear hw
  rw [decide_eq_true (rfl : M = M)]
  have G := (fr)
  have s14 := G.size
  have R14 := R13.no G
  have DS14 := DS13.no G
  have Bc14 := G.obj Bc13 id
  have Bd14 := G.obj Bd13 id
  have OX14 := OX13.no G
  have OY14 := OY13.no G
  have Bx14 := G.obj Bx13 id
  have OA14 := OA13.no G
  have Ba14 := G.obj Ba13 id
  have RB14 := RB13.no G
  have Bb14 := G.obj Bb13 id
  have OG14 := OG13.no G
  have Bg14 := G.obj Bg13 id
  have RI14 := RI13.no G
  have Bi14 := G.obj Bi13 id
  have RK14 := RK13.no G
  have RO14 := RO13.no G
  have OQ14 := OQ13.no G
  have RS14 := RS13.no G
  clear G R13 DS13 Bc13 Bd13 OX13 OY13 Bx13 OA13 Ba13 RB13 Bb13 OG13 Bg13 RI13 Bi13 RK13 RO13 OQ13 RS13
  have F14 := F13.trans fr
  clear fr
  obtain ⟨va0, va1, va2, va3, va4, va5, va6, va7, va8, va9⟩ := obj10 Ba14
  have lt_a := lt_of_block Ba14
  go_wp2_with (go_at_call 23; refine (num_ok _ _).mono ?_; rintro e w' ⟨rfl, rfl⟩)
  have F : Frm (fun k => w.heap.size ≤ k) w w14 := F14.mono fun _ _ h => h.elim
  refine (spoilCell_ok OA14).mono ?_
  rintro e w15 ⟨rfl, f⟩
  clear va0 va1 va2 va3 va4 va5 va6 va7 va8 va9 lt_a
  have FA := F.trans (f.mono fun k _ h => by rcases h with ⟨h1, h2⟩; omega)
  have R15 : CellR w15 c (.slice c1 c.ents.length c2) (.slice c3 c.elems.length c4) (.slice c5 c.seen.length c6) := ⟨R14.e.frm f (fun k hk h => by have := HR0.out.e.blk_lt hk; rcases h with ⟨h1, h2⟩; omega), R14.l.frm f (fun k hk h => by have := HR0.out.l.blk_lt hk; rcases h with ⟨h1, h2⟩; omega), R14.s.frm f (fun k hk h => by have := HR0.out.s.blk_lt hk; rcases h with ⟨h1, h2⟩; omega)⟩
  have DS15 := DS14.frm f (fun k hk h => by have := HD0.out.blk_lt hk; rcases h with ⟨h1, h2⟩; omega)
  have Bc15 := f.obj Bc14 fun h => by rcases h with ⟨h1, h2⟩; omega
  have OX15 := OX14.frm f (fun k hk h => by rcases hk with ⟨h3, h4⟩; rcases h with ⟨h1, h2⟩; omega)
  have OY15 := OY14.frm f (fun k hk h => by rcases hk with ⟨h3, h4⟩; rcases h with ⟨h1, h2⟩; omega)
  have Bx15 := f.obj Bx14 fun h => by rcases h with ⟨h1, h2⟩; omega
  have OG15 := OG14.frm f (fun k hk h => by rcases hk with ⟨h3, h4⟩; rcases h with ⟨h1, h2⟩; omega)
  have Bg15 := f.obj Bg14 fun h => by rcases h with ⟨h1, h2⟩; omega
  have OQ15 := OQ14.frm f (fun k hk h => by rcases hk with ⟨h3, h4⟩; rcases h with ⟨h1, h2⟩; omega)
  clear f R14 DS14 Bc14 Bd14 OX14 OY14 Bx14 OA14 Ba14 RB14 Bb14 OG14 Bg14 RI14 Bi14 RK14 RO14 OQ14 RS14
  obtain ⟨vg0, vg1, vg2, vg3, vg4, vg5, vg6, vg7, vg8, vg9⟩ := obj10 Bg15
  have lt_g := lt_of_block Bg15
  go_wp2_with (fail)
  refine (spoilCell_ok OG15).mono ?_
  rintro e w16 ⟨rfl, f⟩
  clear vg0 vg1 vg2 vg3 vg4 vg5 vg6 vg7 vg8 vg9 lt_g
  have FB := FA.trans (f.mono fun k _ h => by rcases h with ⟨h1, h2⟩; omega)
  have R16 : CellR w16 c (.slice c1 c.ents.length c2) (.slice c3 c.elems.length c4) (.slice c5 c.seen.length c6) := ⟨R15.e.frm f (fun k hk h => by have := HR0.out.e.blk_lt hk; rcases h with ⟨h1, h2⟩; omega), R15.l.frm f (fun k hk h => by have := HR0.out.l.blk_lt hk; rcases h with ⟨h1, h2⟩; omega), R15.s.frm f (fun k hk h => by have := HR0.out.s.blk_lt hk; rcases h with ⟨h1, h2⟩; omega)⟩
  have DS16 := DS15.frm f (fun k hk h => by have := HD0.out.blk_lt hk; rcases h with ⟨h1, h2⟩; omega)
  have Bc16 := f.obj Bc15 fun h => by rcases h with ⟨h1, h2⟩; omega
  have OX16 := OX15.frm f (fun k hk h => by rcases hk with ⟨h3, h4⟩; rcases h with ⟨h1, h2⟩; omega)
  have OY16 := OY15.frm f (fun k hk h => by rcases hk with ⟨h3, h4⟩; rcases h with ⟨h1, h2⟩; omega)
  have Bx16 := f.obj Bx15 fun h => by rcases h with ⟨h1, h2⟩; omega
  have OQ16 := OQ15.frm f (fun k hk h => by rcases hk with ⟨h3, h4⟩; rcases h with ⟨h1, h2⟩; omega)
  clear f R15 DS15 Bc15 OX15 OY15 Bx15 OG15 Bg15 OQ15
  go_wp2_with (fail)
  refine (spoilDots_ok OQ16 (Nat.le_trans OQ16.rd.facts.2.1 OQ16.rd.facts.2.2.1)).mono ?_
  rintro e w17 ⟨rfl, f⟩
  have FC := FB.trans (f.mono fun k _ h => by rcases h with ⟨h1, h2⟩; omega)
  have R17 : CellR w17 c (.slice c1 c.ents.length c2) (.slice c3 c.elems.length c4) (.slice c5 c.seen.length c6) := ⟨R16.e.frm f (fun k hk h => by have := HR0.out.e.blk_lt hk; rcases h with ⟨h1, h2⟩; omega), R16.l.frm f (fun k hk h => by have := HR0.out.l.blk_lt hk; rcases h with ⟨h1, h2⟩; omega), R16.s.frm f (fun k hk h => by have := HR0.out.s.blk_lt hk; rcases h with ⟨h1, h2⟩; omega)⟩
  have DS17 := DS16.frm f (fun k hk h => by have := HD0.out.blk_lt hk; rcases h with ⟨h1, h2⟩; omega)
  have Bc17 := f.obj Bc16 fun h => by rcases h with ⟨h1, h2⟩; omega
  have OX17 := OX16.frm f (fun k hk h => by rcases hk with ⟨h3, h4⟩; rcases h with ⟨h1, h2⟩; omega)
  have OY17 := OY16.frm f (fun k hk h => by rcases hk with ⟨h3, h4⟩; rcases h with ⟨h1, h2⟩; omega)
  have Bx17 := f.obj Bx16 fun h => by rcases h with ⟨h1, h2⟩; omega
  clear f R16 DS16 Bc16 OX16 OY16 Bx16 OQ16
  obtain ⟨vx0, vx1, vx2, vx3, vx4, vx5, vx6, vx7, vx8, vx9⟩ := obj10 Bx17
  have lt_x := lt_of_block Bx17
  obtain ⟨vc0, vc1, vc2, vc3, vc4, vc5, vc6, vc7, vc8, vc9⟩ := obj10 Bc17
  have lt_c := lt_of_block Bc17
  go_wp2_with (fail)
  refine (sameCell_ok OX17.rd R17).mono ?_
  rintro e w18 ⟨rfl, fr⟩
  clear vx0 vx1 vx2 vx3 vx4 vx5 vx6 vx7 vx8 vx9 lt_x vc0 vc1 vc2 vc3 vc4 vc5 vc6 vc7 vc8 vc9 lt_c
  have G := (fr)
  have s18 := G.size
  have R18 := R17.no G
  have DS18 := DS17.no G
  have Bc18 := G.obj Bc17 id
  have OX18 := OX17.no G
  have OY18 := OY17.no G
  have Bx18 := G.obj Bx17 id
  clear G R17 DS17 Bc17 OX17 OY17 Bx17
  have FD := FC.trans (fr.mono fun _ _ h => h.elim)
  clear fr
  go_wp2_with (fail)
  refine (keptDots_ok OY18.rd DS18).mono ?_
  rintro e w19 ⟨rfl, fr⟩
  have FE := FD.trans (fr.mono fun _ _ h => h.elim)
  go_wp2_with (fail)
  refine (awake9_ok _).mono ?_
  rintro e w20 ⟨rfl, fr2⟩
  go_wp2
  go_ret
  exact ⟨rfl, (FE.trans (fr2.mono fun _ _ h => h.elim)).below (fun k hk h => by omega) (Nat.le_refl _)⟩
end Go.Proofs.Ytheejjifcpjdbaa

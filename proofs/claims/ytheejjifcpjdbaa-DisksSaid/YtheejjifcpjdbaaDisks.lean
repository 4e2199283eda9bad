/- tattlelaw20.Disks answers true, for every input. -/
import Derived.Test.YtheejjifcpjdbaaDisk7
import Derived.Test.YtheejjifcpjdbaaAwake20
import Derived.Test.YtheejjifcpjdbaaView
import Derived.Deep.LoopGhost
namespace Go.Proofs.Ytheejjifcpjdbaa
open Go.RowKit Go.Lib Go.Tt
/-- The disk and the document's disk, side by side, both new since B; X: what stands besides. -/
structure Two (B : Nat) (X : Nat → Prop) (w0 w : World) (b r : Nat) (D D' : DiskD) : Prop where
  K : DiskIs w (G B fun k => k = r ∨ X k) b D
  R : RefIs w r D'
  bel : Below B w0 w
  le : B ≤ w.heap.size
  rle : B ≤ r
  lt : ∀ x, X x → x < w.heap.size
  rX : ¬ X r
section
variable {B b r : Nat} {X : Nat → Prop} {w0 w : World} {D D' : DiskD}
theorem Two.rlt (h : Two B X w0 w b r D D') : ∀ x, (x = r ∨ X x) → x < w.heap.size := fun x e => by
  rcases e with rfl | e
  · exact h.R.lt
  · exact h.lt x e
theorem Two.disk (h : Two B X w0 w b r D D') {w' : World} {E : DiskD} (k : DiskIs w' (G B fun k => k = r ∨ X k) b E) (f : Frm (G B fun k => k = r ∨ X k) w w') : Two B X w0 w' b r E D' ∧ ∀ p : Addr, X p.block → w'.cell? p = w.cell? p :=
  ⟨⟨k, h.R.frm f fun hh => hh.2 (.inl rfl), h.bel.trans (f.below (fun k hk hh => by have := hh.1; omega) h.le), Nat.le_trans h.le f.size, h.rle, fun x hx => Nat.lt_of_lt_of_le (h.lt x hx) f.size, h.rX⟩, fun p hp => f.cell (h.lt _ hp) fun hh => hh.2 (.inr hp)⟩
theorem Two.ref (h : Two B X w0 w b r D D') {w' : World} {E : DiskD} (k : RefIs w' r E) (f : Frm (fun k => k = r) w w') : Two B X w0 w' b r D E ∧ ∀ p : Addr, X p.block → w'.cell? p = w.cell? p :=
  ⟨⟨h.K.frm f fun k hk e => hk.2 (.inl e), k, h.bel.trans (f.below (fun k hk hh => by have := h.rle; omega) h.le), Nat.le_trans h.le f.size, h.rle, fun x hx => Nat.lt_of_lt_of_le (h.lt x hx) f.size, h.rX⟩, fun p hp => f.cell (h.lt _ hp) fun hh => h.rX (hh ▸ hp)⟩
theorem Two.drew (h : Two B X w0 w b r D D') (n : Nat) : Two B X w0 (w.drewN n) b r D D' := ⟨h.K.drewN n, h.R, below_drewN h.bel n, h.le, h.rle, h.lt, h.rX⟩
/-- A new block stands besides. -/
theorem Two.alloc (h : Two B No w0 w b r D D') (o : Obj) : Two B (fun k => k = w.heap.size) w0 (w.alloc o) b r D D' :=
  ⟨(h.K.mono (G := G B fun k => k = r ∨ k = w.heap.size) fun k hk hh => ⟨hh.1, fun e => by rcases e with e | e; exact hh.2 (.inl e); omega⟩).frm (Frm.alloc No w o) fun _ _ h => h, h.R.frm (Frm.alloc No w o) (fun h => h), h.bel.trans ((Frm.alloc No w o).below (fun _ _ h => h) h.le), by simp; have := h.le; omega, h.rle, fun x hx => by subst hx; simp, fun e => by have := h.R.lt; omega⟩
/-- It stands no more besides: the blocks that are left out do no harm. -/
theorem Two.none (h : Two B X w0 w b r D D') : Two B No w0 w b r D D' :=
  ⟨h.K.mono fun k hk hh => ⟨hh.1, fun e => hh.2 (by rcases e with e | e; exact .inl e; exact e.elim)⟩, h.R, h.bel, h.le, h.rle, fun x hx => hx.elim, fun e => e⟩
theorem Two.merge {a c : Nat} (h : Two B X w0 ((w.drewN a).drewN c) b r D D') : Two B X w0 (w.drewN (a + c)) b r D D' := by
  have e : (w.drewN a).drewN c = w.drewN (a + c) := by simp
  rw [← e]; exact h
theorem two_append (h : Two B X w0 w b r D D') (s : ByteArray) : Calls Try.prog 25 #[.pointer (some ⟨b, 0, none⟩), .string s] w fun e w' => e = .returned (.int .i64 (D.apE s)) ∧ Two B X w0 w' b r (D.apD s) D' ∧ ∀ p : Addr, X p.block → w'.cell? p = w.cell? p :=
  (append_g h.K h.le h.rlt s rfl rfl).mono fun _ _ ⟨e, k, f⟩ => ⟨e, (h.disk k f).1, (h.disk k f).2⟩
theorem two_sync (h : Two B X w0 w b r D D') : Calls Try.prog 27 #[.pointer (some ⟨b, 0, none⟩)] w fun e w' => e = .returned (.int .i64 D.syE) ∧ Two B X w0 w' b r D.syD D' ∧ ∀ p : Addr, X p.block → w'.cell? p = w.cell? p :=
  (sync_g h.K h.le h.rlt rfl rfl).mono fun _ _ ⟨e, k, f⟩ => ⟨e, (h.disk k f).1, (h.disk k f).2⟩
theorem two_crash (h : Two B X w0 w b r D D') (k : Int) : Calls Try.prog 29 #[.pointer (some ⟨b, 0, none⟩), .int .i64 k] w fun e w' => e = .returned (.int .i64 (D.crE k)) ∧ Two B X w0 w' b r (D.crD k) D' ∧ ∀ p : Addr, X p.block → w'.cell? p = w.cell? p :=
  (crash_g h.K h.le h.rlt k rfl rfl).mono fun _ _ ⟨e, k, f⟩ => ⟨e, (h.disk k f).1, (h.disk k f).2⟩
theorem two_restart (h : Two B X w0 w b r D D') : Calls Try.prog 31 #[.pointer (some ⟨b, 0, none⟩)] w fun e w' => e = .returned (.int .i64 D.reE) ∧ Two B X w0 w' b r D.reD D' ∧ ∀ p : Addr, X p.block → w'.cell? p = w.cell? p :=
  (restart_g h.K rfl rfl).mono fun _ _ ⟨e, k, f⟩ => ⟨e, (h.disk k f).1, (h.disk k f).2⟩
theorem two_cut (h : Two B X w0 w b r D D') (k : Int) : Calls Try.prog 33 #[.pointer (some ⟨b, 0, none⟩), .int .i64 k] w fun e w' => e = .returned (.int .i64 (D.cuE k)) ∧ Two B X w0 w' b r (D.cuD k) D' ∧ ∀ p : Addr, X p.block → w'.cell? p = w.cell? p :=
  (cut_g h.K k rfl rfl).mono fun _ _ ⟨e, k, f⟩ => ⟨e, (h.disk k f).1, (h.disk k f).2⟩
theorem two_bytes (h : Two B X w0 w b r D D') : Calls Try.prog 35 #[.pointer (some ⟨b, 0, none⟩)] w fun e w' => e = .returned (.tuple #[.string D.byS, .int .i64 D.byE]) ∧ w = w' := bytes_g h.K rfl rfl
theorem two_room (h : Two B X w0 w b r D D') : Calls Try.prog 37 #[.pointer (some ⟨b, 0, none⟩)] w fun e w' => e = .returned (.int .i64 D.room) ∧ ∃ n, w' = w.drewN n := room_g h.K rfl
theorem two_rappend (h : Two B X w0 w b r D D') (o : D'.Ok) (s : ByteArray) : Calls Try.prog 26 #[.pointer (some ⟨r, 0, none⟩), .string s] w fun e w' => e = .returned (.int .i64 (D'.apE s)) ∧ Two B X w0 w' b r D (D'.apD s) ∧ ∀ p : Addr, X p.block → w'.cell? p = w.cell? p :=
  (rappend_g h.R o s).mono fun _ _ ⟨e, k, f⟩ => ⟨e, (h.ref k f).1, (h.ref k f).2⟩
theorem two_rsync (h : Two B X w0 w b r D D') (o : D'.Ok) : Calls Try.prog 28 #[.pointer (some ⟨r, 0, none⟩)] w fun e w' => e = .returned (.int .i64 D'.syE) ∧ Two B X w0 w' b r D D'.syD ∧ ∀ p : Addr, X p.block → w'.cell? p = w.cell? p :=
  (rsync_g h.R o).mono fun _ _ ⟨e, k, f⟩ => ⟨e, (h.ref k f).1, (h.ref k f).2⟩
theorem two_rcrash (h : Two B X w0 w b r D D') (o : D'.Ok) (k : Int) : Calls Try.prog 30 #[.pointer (some ⟨r, 0, none⟩), .int .i64 k] w fun e w' => e = .returned (.int .i64 (D'.crE k)) ∧ Two B X w0 w' b r D (D'.crD k) ∧ ∀ p : Addr, X p.block → w'.cell? p = w.cell? p :=
  (rcrash_g h.R o k).mono fun _ _ ⟨e, k, f⟩ => ⟨e, (h.ref k f).1, (h.ref k f).2⟩
theorem two_rrestart (h : Two B X w0 w b r D D') : Calls Try.prog 32 #[.pointer (some ⟨r, 0, none⟩)] w fun e w' => e = .returned (.int .i64 D'.reE) ∧ Two B X w0 w' b r D D'.reD ∧ ∀ p : Addr, X p.block → w'.cell? p = w.cell? p :=
  (rrestart_g h.R).mono fun _ _ ⟨e, k, f⟩ => ⟨e, (h.ref k f).1, (h.ref k f).2⟩
theorem two_rcut (h : Two B X w0 w b r D D') (o : D'.Ok) (k : Int) : Calls Try.prog 34 #[.pointer (some ⟨r, 0, none⟩), .int .i64 k] w fun e w' => e = .returned (.int .i64 (D'.cuE k)) ∧ Two B X w0 w' b r D (D'.cuD k) ∧ ∀ p : Addr, X p.block → w'.cell? p = w.cell? p :=
  (rcut_g h.R o k).mono fun _ _ ⟨e, k, f⟩ => ⟨e, (h.ref k f).1, (h.ref k f).2⟩
theorem two_rbytes (h : Two B X w0 w b r D D') : Calls Try.prog 36 #[.pointer (some ⟨r, 0, none⟩)] w fun e w' => e = .returned (.tuple #[.string D'.byS, .int .i64 D'.byE]) ∧ w = w' := rbytes_g h.R
theorem two_rroom (h : Two B X w0 w b r D D') (o : D'.Ok) : Calls Try.prog 38 #[.pointer (some ⟨r, 0, none⟩)] w fun e w' => e = .returned (.int .i64 D'.room) ∧ ∃ n, w' = w.drewN n := rroom_g h.R o
end
theorem below_le {B : Nat} {w w1 w2 : World} (h : Below B w w1) (k : Below w1.heap.size w1 w2) (hB : B ≤ w1.heap.size) : Below B w w2 := h.trans ⟨k.os, k.tape, k.output, k.size, fun i hi => k.block i (by omega)⟩
/-- An act that came in. -/
def ActE (x : Int × ByteArray × Int) (cs : List Value) : Prop := cs = [.int .i64 x.1, .string x.2.1, .int .i64 x.2.2]
set_option maxHeartbeats 2000000 in
set_option maxRecDepth 100000 in
theorem disks_walk (size : Int) (pa : Option Addr) (pn pc : Nat) (w : World) (acts : List (Int × ByteArray × Int)) (hp : SlE w 3 (.slice pa pn pc) acts ActE) : Calls Try.prog 4 #[.int .i64 size, .slice pa pn pc] w fun e w' => e = .returned (.bool true) ∧ Below w.heap.size w w' := by
  by_cases hs : size < 64 ∨ 65536 < size
  · go_enter Try.func4, Try.ntmps4
    go_wp2_with (first | (go_at_call 21; refine (new_no _ _ hs).mono ?_; rintro e w' ⟨rfl, rfl⟩) | (go_at_call 22; refine (rnew_no _ _ hs).mono ?_; rintro e w' ⟨rfl, rfl⟩) | (go_at_call 23; refine (num_any _ _).mono ?_; rintro e w' ⟨rfl, rfl⟩) |
      (go_at_call 24; refine (awake20 _).mono ?_; rintro e w0 ⟨rfl, f0⟩))
    go_ret
    exact ⟨rfl, f0⟩
  · have hs1 : 64 ≤ size := by omega
    have hs2 : size ≤ 65536 := by omega
    clear hs
    go_enter Try.func4, Try.ntmps4
    go_wp2_with (fail)
    refine (new_ok _ _ (by omega) (by omega)).mono ?_
    rintro e w1 ⟨rfl, K1, f1, z1⟩
    go_wp2_with (fail)
    refine (rnew_ok _ _ (by omega) (by omega)).mono ?_
    rintro e w2 ⟨rfl, R2, f2, z2⟩
    have T : Two w.heap.size No w w2 w.heap.size w1.heap.size ⟨size, false, [], []⟩ ⟨size, false, [], []⟩ :=
      ⟨(K1.frm f2 fun _ _ h => h).mono fun k hk h => ⟨by omega, fun e => by rcases e with e | e; omega; exact e⟩, R2, (f1.trans f2).below (fun _ _ h => h) (Nat.le_refl _), by omega, by omega, fun x hx => hx.elim, fun e => e⟩
    clear K1 f1 z1 R2 f2 z2
    go_wp2_with (go_at_call 23; refine (num_any _ _).mono ?_; rintro e w' ⟨rfl, rfl⟩)
    obtain ⟨rfl, hn1, hn2, hnil, hat⟩ := hp.facts
    clear hp
    go_loopg [9] (acts.length + 1) (fun g iv wr => ∃ (i : Nat) (D : DiskD), iv = .int .i64 i ∧ i ≤ acts.length ∧ g = acts.length - i + 1 ∧ Two w.heap.size No w wr w.heap.size w1.heap.size D D)
    case atStart => exact ⟨0, _, rfl, Nat.zero_le _, by omega, T⟩
    case round =>
      clear T
      obtain ⟨i, D, rfl, hi, hg, T⟩ := hrel
      have hG := Lib.hid hg
      by_cases hlt : i < acts.length
      · obtain ⟨pb, off, cs, rfl, rfl, -, hcell⟩ := hat i hlt
        have hc0 := hcell 0 (by omega)
        have hc1 := hcell 1 (by omega)
        have hc2 := hcell 2 (by omega)
        rw [← T.bel.cell (World.block_lt_of_cell? _ _ hc0)] at hc0
        rw [← T.bel.cell (World.block_lt_of_cell? _ _ hc1)] at hc1
        rw [← T.bel.cell (World.block_lt_of_cell? _ _ hc2)] at hc2
        simp only [List.getD_cons_zero, List.getD_cons_succ, Nat.add_zero, ← Nat.add_assoc] at hc0 hc1 hc2
        generalize acts[i] = p at hc0 hc1 hc2
        obtain ⟨k, s, n⟩ := p
        dsimp only at hc0 hc1 hc2
        have OK := T.K.ok
        clear hcell hat hg hnil
        by_cases h30 : i < 100
        · go_wp2_with (first | (go_at_call 23; refine (num_any _ _).mono ?_; rintro e w' ⟨rfl, rfl⟩))
          all_goals clear hc0 hc1 hc2
          all_goals have ha1 : (wr.alloc (Obj.cells #[Value.int IntKind.i64 k, Value.string s, Value.int IntKind.i64 n] 33)).cell? ⟨wr.heap.size, 1, none⟩ = some (.string s) := by simp
          all_goals have ha2 : (wr.alloc (Obj.cells #[Value.int IntKind.i64 k, Value.string s, Value.int IntKind.i64 n] 33)).cell? ⟨wr.heap.size, 2, none⟩ = some (.int .i64 n) := by simp
          all_goals replace T := T.alloc (Obj.cells #[Value.int IntKind.i64 k, Value.string s, Value.int IntKind.i64 n] 33)
          all_goals go_wp2_with (first | (go_at_call 23; refine (num_any _ _).mono ?_; rintro e w' ⟨rfl, rfl⟩) | (go_at_call 25; refine (two_append T _).mono ?_; rintro e w' ⟨rfl, T, cc⟩; replace ha1 := (cc ⟨wr.heap.size, 1, none⟩ rfl).trans ha1; replace ha2 := (cc ⟨wr.heap.size, 2, none⟩ rfl).trans ha2; clear cc) | (go_at_call 26; refine (two_rappend T OK _).mono ?_; rintro e w' ⟨rfl, T, cc⟩; replace ha1 := (cc ⟨wr.heap.size, 1, none⟩ rfl).trans ha1; replace ha2 := (cc ⟨wr.heap.size, 2, none⟩ rfl).trans ha2; clear cc) | (go_at_call 27; refine (two_sync T).mono ?_; rintro e w' ⟨rfl, T, cc⟩; replace ha1 := (cc ⟨wr.heap.size, 1, none⟩ rfl).trans ha1; replace ha2 := (cc ⟨wr.heap.size, 2, none⟩ rfl).trans ha2; clear cc) | (go_at_call 28; refine (two_rsync T OK).mono ?_; rintro e w' ⟨rfl, T, cc⟩; replace ha1 := (cc ⟨wr.heap.size, 1, none⟩ rfl).trans ha1; replace ha2 := (cc ⟨wr.heap.size, 2, none⟩ rfl).trans ha2; clear cc) | (go_at_call 29; refine (two_crash T _).mono ?_; rintro e w' ⟨rfl, T, cc⟩; replace ha1 := (cc ⟨wr.heap.size, 1, none⟩ rfl).trans ha1; replace ha2 := (cc ⟨wr.heap.size, 2, none⟩ rfl).trans ha2; clear cc) | (go_at_call 30; refine (two_rcrash T OK _).mono ?_; rintro e w' ⟨rfl, T, cc⟩; replace ha1 := (cc ⟨wr.heap.size, 1, none⟩ rfl).trans ha1; replace ha2 := (cc ⟨wr.heap.size, 2, none⟩ rfl).trans ha2; clear cc) | (go_at_call 31; refine (two_restart T).mono ?_; rintro e w' ⟨rfl, T, cc⟩; replace ha1 := (cc ⟨wr.heap.size, 1, none⟩ rfl).trans ha1; replace ha2 := (cc ⟨wr.heap.size, 2, none⟩ rfl).trans ha2; clear cc) | (go_at_call 32; refine (two_rrestart T).mono ?_; rintro e w' ⟨rfl, T, cc⟩; replace ha1 := (cc ⟨wr.heap.size, 1, none⟩ rfl).trans ha1; replace ha2 := (cc ⟨wr.heap.size, 2, none⟩ rfl).trans ha2; clear cc) | (go_at_call 33; refine (two_cut T _).mono ?_; rintro e w' ⟨rfl, T, cc⟩; replace ha1 := (cc ⟨wr.heap.size, 1, none⟩ rfl).trans ha1; replace ha2 := (cc ⟨wr.heap.size, 2, none⟩ rfl).trans ha2; clear cc) | (go_at_call 34; refine (two_rcut T OK _).mono ?_; rintro e w' ⟨rfl, T, cc⟩; replace ha1 := (cc ⟨wr.heap.size, 1, none⟩ rfl).trans ha1; replace ha2 := (cc ⟨wr.heap.size, 2, none⟩ rfl).trans ha2; clear cc) | (go_at_call 35; refine (two_bytes T).mono ?_; rintro e w' ⟨rfl, rfl⟩) | (go_at_call 36; refine (two_rbytes T).mono ?_; rintro e w' ⟨rfl, rfl⟩) | (go_at_call 37; refine (two_room T).mono ?_; rintro e w' ⟨rfl, n, rfl⟩; replace T := T.drew n) | (go_at_call 38; refine (two_rroom T T.K.ok).mono ?_; rintro e w' ⟨rfl, n, rfl⟩; replace T := T.drew n))
          all_goals go_roundg (acts.length - (i + 1) + 1)
          all_goals first | (have := hG.out; omega) | exact ⟨i + 1, _, by go_num, by omega, rfl, T.none.merge⟩
        · have hi' : ¬ ((i : Int) < 100) := by omega
          clear hc0 hc1 hc2
          go_wp2_with (go_at_call 24; refine (awake20 _).mono ?_; rintro e w0 ⟨rfl, f0⟩)
          go_ret
          exact ⟨rfl, below_le T.bel f0 T.le⟩
      · have hnl : ¬ ((i : Int) < acts.length) := by omega
        clear hg hat hnil
        go_wp2_with (go_at_call 24; refine (awake20 _).mono ?_; rintro e w0 ⟨rfl, f0⟩)
        go_ret
        exact ⟨rfl, below_le T.bel f0 T.le⟩
set_option maxRecDepth 100000 in
theorem act_rd {W : World} {cs : List Value} (h : Rd Try.prog W 33 cs) : ∃ x, ActE x cs := by
  obtain ⟨hl, hf⟩ := h.struct Try.underlying33
  have hl : cs.length = 3 := by rw [hl]; kernel_rfl
  obtain ⟨c0, c1, c2, rfl⟩ : ∃ c0 c1 c2, cs = [c0, c1, c2] := by
    match cs, hl with
    | [a, b, c], _ => exact ⟨a, b, c, rfl⟩
  have i3 : Try.prog.cellsOf 3 = 1 := by kernel_rfl
  have i9 : Try.prog.cellsOf 9 = 1 := by kernel_rfl
  simp only [List.forall_mem_cons] at hf
  obtain ⟨r0, r1, r2, _⟩ := hf
  obtain ⟨k, e0, _⟩ := r0.int Try.underlying3
  obtain ⟨s, e1, _⟩ := r1.string Try.underlying9
  obtain ⟨n, e2, _⟩ := r2.int Try.underlying3
  simp [i3, i9] at e0 e1 e2
  subst e0 e1 e2
  exact ⟨(k, s, n), rfl⟩
set_option maxRecDepth 100000 in
open Go.WideShapes Go.ChangeAt in
theorem disks_row {H : Type} {enc : TypeId × Value → H} {base : Nat} (W : World) (a0 : Int) (_ : (Lit.int .i64 a0).wf = true) {v1 : Value} {d1 : DataW H} {p1 : List MemPlace} (ok : Value.okWide Try.prog W .any base 23 v1) (h : DataW.Trod enc Try.prog W 0 (fun _ => true) true 23 v1 d1 p1) :
    Calls Try.prog 4 #[.int .i64 a0, v1] W fun e w' => e = .returned (.bool true) ∧ Below W.heap.size W w' := by
  obtain ⟨a, n, c, rfl⟩ := okWide_slice Try.underlying23 ok
  obtain ⟨xs, hx⟩ := slE_of (P := Try.prog) (k := 3) (R := ActE) rfl ⟨_, _, _, rfl⟩ Try.underlying23 (by kernel_rfl) (by decide) (fun cs hc => act_rd hc) (rd_of_trod h)
  exact disks_walk a0 a n c W xs hx
end Go.Proofs.Ytheejjifcpjdbaa

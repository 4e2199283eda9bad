/- Merged: DocW11. -/
import Derived.Test.YthaegncocdddfaaGreatDoorK14
import Derived.Test.YthaegncocdddfaaGreatDoorK15
/- The parser's steps, walked: all (printed by gen_all.py). -/
namespace Go.Proofs.YthaegncocdddfaaGreatDoor
set_option linter.unusedVariables false
set_option linter.unusedSimpArgs false
set_option linter.unusedVariables false
set_option linter.unusedSimpArgs false
open Go.RowKit Go.Lib Go.Tt
theorem i_doc : (Tryz.prog.info? 26).map (·.size) = some 4 := by kernel_rfl
/-- Where all stands: the parser, the document that is made, the result's place. -/
structure AllI (w wr : World) (pb : Nat) (q : PS) (d : Dm) (v : DocC) : Prop where
  p : PAt wr pb q
  b : wr.heap[w.heap.size + 1]? = some (.cells v.l.toArray 26 (0, 0))
  o : OwDoc wr (Bt (w.heap.size + 2) wr.heap.size) v d
  r : wr.heap[w.heap.size]? = some (.cells #[.bool false, .slice none 0 0, .slice none 0 0, .slice none 0 0] 26 (0, 0))
  f : Frm (fun k => k = pb) w wr
def dmF (d : Dm) (f : Fg) : Dm := ⟨d.mutn, d.decls, d.sels, d.frags ++ [f]⟩
def dmO (d : Dm) (o : Bool × List Dc × List Sl × PS) : Dm := ⟨o.1, o.2.1, o.2.2.1, d.frags⟩
theorem pm_pos {p : PS} (hb : p.bad = false) {t : Tk} {r : List Tk} (ht : p.ts = t :: r) : 0 < p.m := by
  unfold PS.m
  rw [if_neg (by rw [hb]; decide), ht]
  simp
/-- What stays of it where only the parser turns. -/
theorem AllI.up {w wr w' : World} {pb : Nat} {q q' : PS} {d : Dm} {v : DocC} (h : AllI w wr pb q d v) (hp : PAt w' pb q') (f : Frm (fun k => k = pb) wr w') (hpb : pb < w.heap.size) : AllI w w' pb q' d v :=
  ⟨hp, f.obj h.b (by omega), (h.o.frm f fun k hk e => by have e' : k = pb := e; have := hk.1; omega).mono fun k hk => hk.up f.size, f.obj h.r (by omega), h.f.trans f⟩
theorem AllI.setS {w wr w' : World} {pb : Nat} {q q' : PS} {d : Dm} {v : DocC} (h : AllI w wr pb q d v) (hp : PAt w' pb q') (f : Frm (fun k => k = pb) wr w') (hpb : pb < w.heap.size) {l : List Sl} {s : Sh} (ho : OwSs w' (Nb wr w') (.slice s.p s.n s.c) l) :
    AllI w (w'.setCell ⟨w.heap.size + 1, 2, none⟩ (.slice s.p s.n s.c)) pb q' { d with sels := l } { v with s := s } := by
  have sz := h.f.size
  have nb := lt_of_block h.b
  have g : Frm (fun k => k = w.heap.size + 1) w' (w'.setCell ⟨w.heap.size + 1, 2, none⟩ (.slice s.p s.n s.c)) := Frm.setCell _ ⟨w.heap.size + 1, 2, none⟩ _ rfl
  have e : (w'.setCell ⟨w.heap.size + 1, 2, none⟩ (.slice s.p s.n s.c)).heap.size = w'.heap.size := by simp
  refine ⟨hp.frm g (by omega) fun k hk => by omega, ?_, ?_, g.obj (f.obj h.r (by omega)) (by omega), (h.f.trans f).then g fun k hk e => by have e' : k = w.heap.size + 1 := e; omega⟩
  · have := obj_setCell (i := 2) (f.obj h.b (by omega)) (.slice s.p s.n s.c)
    exact this
  · rw [e]
    have := ((h.o.frm f fun k hk e => by have e' : k = pb := e; have := hk.1; omega).setS ho (by omega) f.size).frm g fun k hk e => by have e' : k = w.heap.size + 1 := e; have := hk.1; omega
    exact this
theorem AllI.setD {w wr w' : World} {pb : Nat} {q q' : PS} {d : Dm} {v : DocC} (h : AllI w wr pb q d v) (hp : PAt w' pb q') (f : Frm (fun k => k = pb) wr w') (hpb : pb < w.heap.size) {l : List Dc} {s : Sh} (ho : Ow w' (fun k => wr.heap.size ≤ k) 62 eDc (.slice s.p s.n s.c) l) :
    AllI w (w'.setCell ⟨w.heap.size + 1, 1, none⟩ (.slice s.p s.n s.c)) pb q' { d with decls := l } { v with d := s } := by
  have sz := h.f.size
  have nb := lt_of_block h.b
  have g : Frm (fun k => k = w.heap.size + 1) w' (w'.setCell ⟨w.heap.size + 1, 1, none⟩ (.slice s.p s.n s.c)) := Frm.setCell _ ⟨w.heap.size + 1, 1, none⟩ _ rfl
  have e : (w'.setCell ⟨w.heap.size + 1, 1, none⟩ (.slice s.p s.n s.c)).heap.size = w'.heap.size := by simp
  refine ⟨hp.frm g (by omega) fun k hk => by omega, ?_, ?_, g.obj (f.obj h.r (by omega)) (by omega), (h.f.trans f).then g fun k hk e => by have e' : k = w.heap.size + 1 := e; omega⟩
  · have := obj_setCell (i := 1) (f.obj h.b (by omega)) (.slice s.p s.n s.c)
    exact this
  · rw [e]
    have := ((h.o.frm f fun k hk e => by have e' : k = pb := e; have := hk.1; omega).setD ho (by omega) f.size).frm g fun k hk e => by have e' : k = w.heap.size + 1 := e; have := hk.1; omega
    exact this
theorem AllI.setM {w wr w' : World} {pb : Nat} {q q' : PS} {d : Dm} {v : DocC} (h : AllI w wr pb q d v) (hp : PAt w' pb q') (f : Frm (fun k => k = pb) wr w') (hpb : pb < w.heap.size) (b : Bool) :
    AllI w (w'.setCell ⟨w.heap.size + 1, 0, none⟩ (.bool b)) pb q' { d with mutn := b } { v with m := b } := by
  have h := h.up hp f hpb
  have nb := lt_of_block h.b
  have g : Frm (fun k => k = w.heap.size + 1) w' (w'.setCell ⟨w.heap.size + 1, 0, none⟩ (.bool b)) := Frm.setCell _ ⟨w.heap.size + 1, 0, none⟩ _ rfl
  have e : (w'.setCell ⟨w.heap.size + 1, 0, none⟩ (.bool b)).heap.size = w'.heap.size := by simp
  refine ⟨h.p.frm g (by omega) fun k hk => by omega, ?_, ?_, g.obj h.r (by omega), h.f.then g fun k hk e => by have e' : k = w.heap.size + 1 := e; omega⟩
  · have := obj_setCell (i := 0) h.b (.bool b)
    exact this
  · rw [e]
    exact (h.o.setM b).frm g fun k hk e => by have e' : k = w.heap.size + 1 := e; have := hk.1; omega
set_option maxRecDepth 100000 in
theorem fld_kind (a : Int) (b : ByteArray) (c d : Int) (W : World) : (Instr.field 104 (.agg #[.int .i64 a, .string b, .int .i64 c, .int .i64 d]) 0).run Tryz.prog W = .ok (.int .i64 a) W := by
  unfold Instr.field
  simp [asAgg, go_sem, run_underlying Tryz.underlying104, run_underlying Tryz.underlying3, Tryz.sizeOf3, Tryz.isAgg3]
/-- A fragment under way: it is the last of the row, its set is still to come. -/
structure FragI (w w1 W : World) (pb : Nat) (q : PS) (d : Dm) (v : DocC) (G C : Nat → Prop) (rs : List FgC) (s : Sh) (z : FgC) : Prop where
  p : PAt W pb q
  b : W.heap[w.heap.size + 1]? = some (.cells (DocC.l { v with f := s }).toArray 26 (0, 0))
  r : W.heap[w.heap.size]? = some (.cells #[.bool false, .slice none 0 0, .slice none 0 0, .slice none 0 0] 26 (0, 0))
  o : Ow W (fun k => (G k ∨ Bt w1.heap.size W.heap.size k) ∧ ¬ C k) 53 eFg (.slice s.p s.n s.c) (rs ++ [z])
  c : OwFgs W C rs d.frags
  f : Frm (fun k => k = pb ∨ k = w.heap.size + 1 ∨ G k ∨ w1.heap.size ≤ k) w1 W
theorem FragI.up {w w1 W W' : World} {pb : Nat} {q q' : PS} {d : Dm} {v : DocC} {G C : Nat → Prop} {rs : List FgC} {s : Sh} {z : FgC} (h : FragI w w1 W pb q d v G C rs s z) (hp : PAt W' pb q') (f : Frm (fun k => k = pb) W W') (hpb : pb < w.heap.size) (hG : ∀ k, G k → w.heap.size + 2 ≤ k) (hC : ∀ k, C k → w.heap.size + 2 ≤ k) (hs : w.heap.size + 2 ≤ w1.heap.size) : FragI w w1 W' pb q' d v G C rs s z :=
  ⟨hp, f.obj h.b (by omega), f.obj h.r (by omega), (h.o.frm f fun k hk e => by
      have e' : k = pb := e
      rcases hk.1 with hk | hk
      · have := hG k hk; omega
      · have := hk.1; omega).mono fun k hk h => ⟨h.1.imp id fun h => h.up f.size, h.2⟩, OwFgs.frm f (fun k hk e => by have e' : k = pb := e; have := hC k hk; omega) h.c, h.f.trans (f.mono fun k _ e => .inl e)⟩
theorem FragI.last {w w1 W W' : World} {pb : Nat} {q : PS} {d : Dm} {v : DocC} {G C : Nat → Prop} {rs : List FgC} {s : Sh} {z z' : FgC} (h : FragI w w1 W pb q d v G C rs s z) {g : Nat} (f : Frm (fun k => k = g) W W') (hz : W'.heap.size = W.heap.size) (hg : (G g ∨ Bt w1.heap.size W.heap.size g) ∧ ¬ C g) (ho : Ow W' (fun k => (G k ∨ Bt w1.heap.size W.heap.size k) ∧ ¬ C k) 53 eFg (.slice s.p s.n s.c) (rs ++ [z'])) (hpb : pb < w.heap.size) (hG : ∀ k, G k → w.heap.size + 2 ≤ k) (hs : w.heap.size + 2 ≤ w1.heap.size) : FragI w w1 W' pb q d v G C rs s z' := by
  have hgm : w.heap.size + 2 ≤ g := by
    rcases hg.1 with h | h
    · exact hG g h
    · have := h.1; omega
  refine ⟨h.p.frm f (by omega) fun k hk => by omega, f.obj h.b (by omega), f.obj h.r (by omega), by rw [hz]; exact ho, OwFgs.frm f (fun k hk e => ?_) h.c, h.f.trans (f.mono fun k _ e => ?_)⟩
  · have e' : k = g := e
    subst e'
    exact hg.2 hk
  · have e' : k = g := e
    subst e'
    rcases hg.1 with h | h
    · exact .inr (.inr (.inl h))
    · exact .inr (.inr (.inr h.1))
/-- The fragment is whole: its set was read, between W and W'. -/
theorem FragI.close {w w1 W W' W'' : World} {pb : Nat} {q q0 q' : PS} {d : Dm} {v : DocC} {G C : Nat → Prop} {rs : List FgC} {s : Sh} {nm on : ByteArray} {t : Sh} {ss : List Sl} (I1 : AllI w w1 pb q0 d v)
    (h : FragI w w1 W pb q d v G C rs s ⟨nm, on, nilSh⟩) (f : Frm (fun k => k = pb) W W') (hp : PAt W' pb q') (S : OwSs W' (Nb W W') (.slice t.p t.n t.c) ss) {g : Nat} (f2 : Frm (fun k => k = g) W' W'') (hz : W''.heap.size = W'.heap.size) (hg : ((G g ∨ Bt w1.heap.size W.heap.size g) ∧ ¬ C g) ∧ g < W.heap.size)
    (ho : Ow W'' (fun k => ((G k ∨ Bt w1.heap.size W.heap.size k) ∧ ¬ C k) ∧ k < W.heap.size) 53 eFg (.slice s.p s.n s.c) (rs ++ [⟨nm, on, t⟩])) (hpb : pb < w.heap.size) (hG : ∀ k, G k → Bt (w.heap.size + 2) w1.heap.size k ∧ ¬ C k) (hC : ∀ k, C k → Bt (w.heap.size + 2) w1.heap.size k) (hs : w.heap.size + 2 ≤ w1.heap.size)
    (close : ∀ (w' : World) (X G' C' : Nat → Prop) (rs' : List FgC) (s : Sh) (fs : List Fg), Frm X w1 w' → w1.heap.size ≤ w'.heap.size → w.heap.size + 2 ≤ w1.heap.size → (∀ k, X k → Bt (w.heap.size + 2) w1.heap.size k → G k) → (∀ k, G' k → (G k ∨ Bt w1.heap.size w'.heap.size k) ∧ ¬ C' k) → (∀ k, C' k → C k ∨ Bt w1.heap.size w'.heap.size k) → Ow w' G' 53 eFg (.slice s.p s.n s.c) rs' → OwFgs w' C' rs' fs →
      OwDoc w' (Bt (w.heap.size + 2) w'.heap.size) { v with f := s } { d with frags := fs }) : AllI w W'' pb q' (dmF d ⟨nm, on, ss⟩) { v with f := s } := by
  have hgm : w.heap.size + 2 ≤ g := by
    rcases hg.1.1 with h | h
    · exact (hG g h).1.1
    · have := h.1; omega
  have s1 := h.f.size
  have s2 := f.size
  have F2 : Frm (fun k => k = pb ∨ k = w.heap.size + 1 ∨ G k ∨ w1.heap.size ≤ k) w1 W'' := by
    refine (h.f.trans (f.mono fun k _ e => .inl e)).trans (f2.mono fun k _ e => ?_)
    have e' : k = g := e
    subst e'
    rcases hg.1.1 with h | h
    · exact .inr (.inr (.inl h))
    · exact .inr (.inr (.inr h.1))
  refine ⟨hp.frm f2 (by omega) fun k hk => by omega, f2.obj (f.obj h.b (by omega)) (by omega), ?_, f2.obj (f.obj h.r (by omega)) (by omega), I1.f.then F2 fun k hk e => ?_⟩
  · refine close W'' _ _ (fun k => C k ∨ Nb W W' k) _ s _ F2 (by omega) hs (fun k hx hb => ?_) (fun k hk => ⟨?_, ?_⟩) (fun k hk => ?_) ho ((OwFgs.snoc ⟨rfl, rfl⟩ S (fun k h1 h2 => ?_) (OwFgs.frm f (fun k hk e => ?_) h.c)).frm f2 fun k hk e => ?_)
    · rcases hx with hx | hx | hx | hx
      · have := hb.1; omega
      · have := hb.1; omega
      · exact hx
      · have := hb.2; omega
    · rcases hk.1.1 with h | h
      · exact .inl h
      · exact .inr ⟨h.1, by have := h.2; omega⟩
    · rintro (hc | hc)
      · exact hk.1.2 hc
      · have := hc.1; have := hk.2; omega
    · rcases hk with hk | hk
      · exact .inl hk
      · exact .inr ⟨by have := hk.1; omega, by have := hk.2; omega⟩
    · have := h1.1; have := (hC k h2).2; omega
    · have e' : k = pb := e
      have := (hC k hk).1
      omega
    · have e' : k = g := e
      subst e'
      rcases hk with hk | hk
      · exact hg.1.2 hk
      · have := hk.1; omega
  · rcases e with e | e | e | e
    · exact e
    · omega
    · have := (hG k e).1.1; omega
    · omega
set_option maxHeartbeats 16000000 in
set_option maxRecDepth 100000 in
theorem all_ok {w : World} {pb : Nat} {p : PS} (h : PAt w pb p) (hm : p.m ≤ 2048) :
    Calls Tryz.prog 21 #[.pointer (some ⟨pb, 0, none⟩)] w fun e w' => ∃ v : DocC, e = .returned (.agg #[.bool v.m, .slice v.d.p v.d.n v.d.c, .slice v.s.p v.s.n v.s.c, .slice v.f.p v.f.n v.f.c]) ∧ OwDoc w' (Bt w.heap.size w'.heap.size) v (allL (p.m + 1) p 0 emDm).1 ∧ PAt w' pb (allL (p.m + 1) p 0 emDm).2 ∧ Frm (fun k => k = pb) w w' := by
  obtain ⟨R, hR⟩ : ∃ R, Hid (allL (p.m + 1) p 0 emDm = R) := ⟨_, Lib.hid rfl⟩
  rw [hR.out]
  have npb := h.lt
  go_enter Tryz.func21, Tryz.ntmps21
  go_wp2_with (fail)
  refine jumps3
    (fun a wr => ∃ (n k : Nat) (q : PS) (d : Dm) (v : DocC), (a.tmps.size = 95 ∧ a.defers = [] ∧ a.tmps.getD 0 undef = .pointer (some ⟨pb, 0, none⟩) ∧ a.tmps.getD 2 undef = .pointer (some ⟨w.heap.size, 0, none⟩) ∧ a.tmps.getD 3 undef = .pointer (some ⟨w.heap.size + 1, 0, none⟩) ∧ a.tmps.getD 4 undef = .int .i64 k) ∧ Hid (allL n (frag1 q).2 k (dmF d (frag1 q).1) = R) ∧ q.m < n + 1 ∧ q.m ≤ 2048 ∧ k + q.m ≤ 2049 ∧ d.frags.length + q.m ≤ 2049 ∧ 0 < q.m ∧ AllI w wr pb q d v)
    (fun a wr => ∃ (n k : Nat) (q : PS) (d : Dm) (v : DocC), (a.tmps.size = 95 ∧ a.defers = [] ∧ a.tmps.getD 0 undef = .pointer (some ⟨pb, 0, none⟩) ∧ a.tmps.getD 2 undef = .pointer (some ⟨w.heap.size, 0, none⟩) ∧ a.tmps.getD 3 undef = .pointer (some ⟨w.heap.size + 1, 0, none⟩) ∧ a.tmps.getD 4 undef = .int .i64 k) ∧ Hid (allL n (oper1 q).2.2.2 (k + 1) (dmO d (oper1 q)) = R) ∧ q.m < n + 1 ∧ q.m ≤ 2048 ∧ k + q.m ≤ 2049 ∧ d.frags.length + q.m ≤ 2049 ∧ 0 < q.m ∧ AllI w wr pb q d v)
    (fun a wr => ∃ (n k : Nat) (q : PS) (d : Dm) (v : DocC), (a.tmps.size = 95 ∧ a.defers = [] ∧ a.tmps.getD 0 undef = .pointer (some ⟨pb, 0, none⟩) ∧ a.tmps.getD 2 undef = .pointer (some ⟨w.heap.size, 0, none⟩) ∧ a.tmps.getD 3 undef = .pointer (some ⟨w.heap.size + 1, 0, none⟩) ∧ a.tmps.getD 4 undef = .int .i64 k) ∧ Hid (allL n q k d = R) ∧ q.m < n ∧ q.m ≤ 2048 ∧ k + q.m ≤ 2049 ∧ d.frags.length + q.m ≤ 2049 ∧ AllI w wr pb q d v)
    (fun _ wr => 2 * pmOf wr pb) (fun _ wr => 2 * pmOf wr pb) (fun _ wr => 2 * pmOf wr pb + 1) (fun _ => rfl) (fun _ => rfl) (fun _ => rfl) ?first ?pass0 ?pass1 ?pass2
  case pass2 =>
    clear h hm hR
    rintro a wr ⟨n, k, q, d, v, ⟨hs, hd, h0, h2, h3, h4⟩, hA, hqn, hqm, hk, hfl, I⟩
    obtain ⟨u, hu⟩ : ∃ u : Nat → Value, Hid ((fun i => a.tmps.getD i undef) = u) := ⟨_, Lib.hid rfl⟩
    have ha : a = { tmps := #[u 0, u 1, u 2, u 3, u 4, u 5, u 6, u 7, u 8, u 9, u 10, u 11, u 12, u 13, u 14, u 15, u 16, u 17, u 18, u 19, u 20, u 21, u 22, u 23, u 24, u 25, u 26, u 27, u 28, u 29, u 30, u 31, u 32, u 33, u 34, u 35, u 36, u 37, u 38, u 39, u 40, u 41, u 42, u 43, u 44, u 45, u 46, u 47, u 48, u 49, u 50, u 51, u 52, u 53, u 54, u 55, u 56, u 57, u 58, u 59, u 60, u 61, u 62, u 63, u 64, u 65, u 66, u 67, u 68, u 69, u 70, u 71, u 72, u 73, u 74, u 75, u 76, u 77, u 78, u 79, u 80, u 81, u 82, u 83, u 84, u 85, u 86, u 87, u 88, u 89, u 90, u 91, u 92, u 93, u 94], defers := [] } := by
      rw [← hu.out]
      exact act_lit a 95 hs hd
    have e0 : u 0 = .pointer (some ⟨pb, 0, none⟩) := by rw [← hu.out]; exact h0
    have e2 : u 2 = .pointer (some ⟨w.heap.size, 0, none⟩) := by rw [← hu.out]; exact h2
    have e3 : u 3 = .pointer (some ⟨w.heap.size + 1, 0, none⟩) := by rw [← hu.out]; exact h3
    have e4 : u 4 = .int .i64 k := by rw [← hu.out]; exact h4
    rw [e0, e2, e3, e4] at ha
    clear hu hs hd h0 h2 h3 h4
    subst ha
    clear e0 e2 e3 e4
    obtain ⟨n, rfl⟩ : ∃ m, n = m + 1 := ⟨n - 1, by omega⟩
    have hst : Hid (R = if q.bad || q.ts.length == 0 then (d, ⟨q.ts, q.bad || !decide ((k : Int) = 1)⟩) else if q.word tFrag then allL n (frag1 q).2 k (dmF d (frag1 q).1) else if q.word tQuery || q.word tMut then allL n (oper1 q).2.2.2 (k + 1) (dmO d (oper1 q)) else allL n q.set.2 (k + 1) ⟨d.mutn, d.decls, q.set.1, d.frags⟩) := Lib.hid (by rw [← hA.out]; rfl)
    clear hA
    obtain ⟨a0, n0, c0', hb, hr⟩ := I.p
    have hnn := hr.1.facts.1
    have q0 : wr.cell? ⟨pb, 0, none⟩ = some (.slice a0 n0 c0') := obj_cell hb 0
    have nb := lt_of_block hb
    have nd := lt_of_block I.b
    have zb := obj_frz hb
    have hk1 : k ≤ 2049 := by omega
    rcases hbad : q.bad with _ | _
    · have q1 : wr.cell? ⟨pb, 1, none⟩ = some (.bool false) := by rw [← hbad]; exact obj_cell hb 1
      rcases hts : q.ts with _ | ⟨t, r⟩
      · rw [hts] at hnn
        have hn0 : n0 = 0 := hnn
        subst hn0
        clear hnn
        have hst' := hst.out
        rw [hbad, hts] at hst'
        by_cases hk : k = 1
        · subst hk
          have hRR : Hid (R = (d, ⟨q.ts, false⟩)) := Lib.hid (by rw [hst', hts]; rfl)
          clear hst hst' hts
          have c0 : wr.cell? ⟨w.heap.size + 1, 0, none⟩ = some (.bool v.m) := obj_cell I.b 0
          have c1 : wr.cell? ⟨w.heap.size + 1, 1, none⟩ = some (.slice v.d.p v.d.n v.d.c) := obj_cell I.b 1
          have c2 : wr.cell? ⟨w.heap.size + 1, 2, none⟩ = some (.slice v.s.p v.s.n v.s.c) := obj_cell I.b 2
          have c3 : wr.cell? ⟨w.heap.size + 1, 3, none⟩ = some (.slice v.f.p v.f.n v.f.c) := obj_cell I.b 3
          have Ir := I.r
          have Io := I.o
          have If_ := I.f
          have sf := I.f.size
          have nr := lt_of_block Ir
          have PB := PAt.set hb hr false
          clear I
          go_wp2_with (refine wpList_sto _ rfl (.tmp 2) (.tmp 29) 26 rfl (obj_setCell_ne Ir (by omega) _) (by exact i_doc) (by rfl) v.one rfl rfl ?_)
          intro w8 B8 f8 z8
          have t0 : w8.cell? ⟨w.heap.size, 0, none⟩ = some (.bool v.m) := obj_cell B8 0
          have t1 : w8.cell? ⟨w.heap.size, 1, none⟩ = some (.slice v.d.p v.d.n v.d.c) := obj_cell B8 1
          have t2 : w8.cell? ⟨w.heap.size, 2, none⟩ = some (.slice v.s.p v.s.n v.s.c) := obj_cell B8 2
          have t3 : w8.cell? ⟨w.heap.size, 3, none⟩ = some (.slice v.f.p v.f.n v.f.c) := obj_cell B8 3
          go_wp2_with (fail)
          rw [jump3_ret]
          refine bodyPost_ret (v := .agg #[.bool v.m, .slice v.d.p v.d.n v.d.c, .slice v.s.p v.s.n v.s.c, .slice v.f.p v.f.n v.f.c]) (by simp [results, Tryz.results21, go_sem, *]) rfl ?_
          have G8 : Frm (fun k => k = pb ∨ k = w.heap.size) wr w8 := ((Frm.refl _ wr).sc (b := pb) (Or.inl rfl) 1 _).trans (f8.mono fun k _ h => .inr h)
          have s8 := G8.size
          refine ⟨v, rfl, ?_, ?_, If_.then G8 fun k hk e => by omega⟩
          · rw [hRR.out]
            exact (Io.frm G8 fun k hk e => by have := hk.1; omega).mono fun k hk => ⟨by have := hk.1; omega, by have := hk.2; omega⟩
          · rw [hRR.out]
            exact PB.frm f8 (fun e => by omega) fun k hk e => by omega
        · have hRR : Hid (R = (d, ⟨q.ts, true⟩)) := Lib.hid (by rw [hst', hts]; simp; omega)
          have hk' : ((k : Int) != 1) = true := by simp; omega
          clear hst hst' hts
          have c0 : wr.cell? ⟨w.heap.size + 1, 0, none⟩ = some (.bool v.m) := obj_cell I.b 0
          have c1 : wr.cell? ⟨w.heap.size + 1, 1, none⟩ = some (.slice v.d.p v.d.n v.d.c) := obj_cell I.b 1
          have c2 : wr.cell? ⟨w.heap.size + 1, 2, none⟩ = some (.slice v.s.p v.s.n v.s.c) := obj_cell I.b 2
          have c3 : wr.cell? ⟨w.heap.size + 1, 3, none⟩ = some (.slice v.f.p v.f.n v.f.c) := obj_cell I.b 3
          have Ir := I.r
          have Io := I.o
          have If_ := I.f
          have sf := I.f.size
          have nr := lt_of_block Ir
          have PB := PAt.set hb hr true
          clear I
          go_wp2_with (refine wpList_sto _ rfl (.tmp 2) (.tmp 29) 26 rfl (obj_setCell_ne Ir (by omega) _) (by exact i_doc) (by rfl) v.one rfl rfl ?_)
          intro w8 B8 f8 z8
          have t0 : w8.cell? ⟨w.heap.size, 0, none⟩ = some (.bool v.m) := obj_cell B8 0
          have t1 : w8.cell? ⟨w.heap.size, 1, none⟩ = some (.slice v.d.p v.d.n v.d.c) := obj_cell B8 1
          have t2 : w8.cell? ⟨w.heap.size, 2, none⟩ = some (.slice v.s.p v.s.n v.s.c) := obj_cell B8 2
          have t3 : w8.cell? ⟨w.heap.size, 3, none⟩ = some (.slice v.f.p v.f.n v.f.c) := obj_cell B8 3
          go_wp2_with (fail)
          rw [jump3_ret]
          refine bodyPost_ret (v := .agg #[.bool v.m, .slice v.d.p v.d.n v.d.c, .slice v.s.p v.s.n v.s.c, .slice v.f.p v.f.n v.f.c]) (by simp [results, Tryz.results21, go_sem, *]) rfl ?_
          have G8 : Frm (fun k => k = pb ∨ k = w.heap.size) wr w8 := ((Frm.refl _ wr).sc (b := pb) (Or.inl rfl) 1 _).trans (f8.mono fun k _ h => .inr h)
          have s8 := G8.size
          refine ⟨v, rfl, ?_, ?_, If_.then G8 fun k hk e => by omega⟩
          · rw [hRR.out]
            exact (Io.frm G8 fun k hk e => by have := hk.1; omega).mono fun k hk => ⟨by have := hk.1; omega, by have := hk.2; omega⟩
          · rw [hRR.out]
            exact PB.frm f8 (fun e => by omega) fun k hk e => by omega
      · have hpos := pm_pos hbad hts
        have hne : ((n0 : Int) == 0) = false := by rw [hnn, hts]; simp; omega
        have W1 := pword_ok I.p tFrag
        have W2 := Lib.hid (fun W (f : Frm No wr W) => pword_ok (I.p.no f) tQuery)
        have W3 := Lib.hid (fun W (f : Frm No wr W) => pword_ok (I.p.no f) tMut)
        have hpm := Lib.hid I.p.pm
        have hst' := hst.out
        rw [hbad, hts] at hst'
        simp only [Bool.false_or, List.length_cons] at hst'
        rw [if_neg (by simp)] at hst'
        clear hst hb hr hnn
        rcases hw1 : q.word tFrag with _ | _
        · rw [hw1] at W1 hst'
          rw [if_neg (by decide)] at hst'
          rcases hw2 : q.word tQuery with _ | _
          · rw [hw2] at W2 hst'
            rw [Bool.false_or] at hst'
            rcases hw3 : q.word tMut with _ | _
            · rw [hw3] at W3 hst'
              have hRR := Lib.hid (hst'.trans (if_neg (by decide)))
              have hlt := set_lt q
              have HL := Lib.hid (lt_m hlt hpos)
              clear hst' hw1 hw2 hw3 hts hbad hlt
              go_wp2_with (fail)
              refine W1.mono ?_
              rintro e w1 ⟨rfl, f1⟩
              go_wp2_with (fail)
              refine (W2.out _ f1).mono ?_
              rintro e w2 ⟨rfl, f2⟩
              go_wp2_with (fail)
              refine (W3.out _ (f1.trans f2)).mono ?_
              rintro e w3 ⟨rfl, f3⟩
              have F3 := (f1.trans f2).trans f3
              have P3 := I.p.no F3
              have F3 := F3.mono (G := fun k => k = pb) fun _ _ h => h.elim
              have I3 := I.up P3 F3 npb
              clear f1 f2 f3 W1 W2 W3 q0 q1 zb nb nd
              go_wp2_with (fail)
              refine (set_ok P3 hqm).mono ?_
              rintro e w4 ⟨as_, ns, cs, rfl, S4, P4, f4⟩
              have I4 := I3.setS P4 f4 npb (s := ⟨as_, ns, cs⟩) S4
              have hp4 := Lib.hid I4.p.pm
              have c4 : w4.cell? ⟨w.heap.size + 1, 2, none⟩ = some (.slice v.s.p v.s.n v.s.c) := obj_cell (f4.obj I3.b (by omega)) 2
              have z4 := obj_frz (f4.obj I3.b (by omega))
              have n4 := lt_of_block (f4.obj I3.b (by omega))
              clear S4 P4 f4 P3 F3 I3 I
              go_wp2_with (fail)
              go_step3
              refine ⟨⟨n, k + 1, q.set.2, _, _, ⟨rfl, rfl, rfl, rfl, rfl, rfl⟩, Lib.hid hRR.out.symm, ?_, ?_, ?_, ?_, I4⟩, ?_⟩
              · have := HL.out; omega
              · have := HL.out; omega
              · have := HL.out; omega
              · have := HL.out; show d.frags.length + _ ≤ _; omega
              · rw [hp4.out, hpm.out]; have := HL.out; omega
            · rw [hw3] at W3 hst'
              have hRR := Lib.hid (hst'.trans (if_pos (by decide)))
              clear hst' hw1 hw2 hw3 hts hbad
              go_wp2_with (fail)
              refine W1.mono ?_
              rintro e w1 ⟨rfl, f1⟩
              go_wp2_with (fail)
              refine (W2.out _ f1).mono ?_
              rintro e w2 ⟨rfl, f2⟩
              go_wp2_with (fail)
              refine (W3.out _ (f1.trans f2)).mono ?_
              rintro e w3 ⟨rfl, f3⟩
              have F3 := (f1.trans f2).trans f3
              have I3 := I.up (I.p.no F3) (F3.mono (G := fun k => k = pb) fun _ _ h => h.elim) npb
              have hp3 := Lib.hid I3.p.pm
              go_wp2_with (fail)
              go_step3
              exact ⟨⟨n, k, q, d, v, ⟨rfl, rfl, rfl, rfl, rfl, rfl⟩, Lib.hid hRR.out.symm, hqn, hqm, hk, hfl, hpos, I3⟩, by rw [hp3.out, hpm.out]; omega⟩
          · rw [hw2] at W2 hst'
            have hRR := Lib.hid (hst'.trans (if_pos (by simp)))
            clear hst' hw1 hw2 hts hbad W3
            go_wp2_with (fail)
            refine W1.mono ?_
            rintro e w1 ⟨rfl, f1⟩
            go_wp2_with (fail)
            refine (W2.out _ f1).mono ?_
            rintro e w2 ⟨rfl, f2⟩
            have F3 := f1.trans f2
            have I3 := I.up (I.p.no F3) (F3.mono (G := fun k => k = pb) fun _ _ h => h.elim) npb
            have hp3 := Lib.hid I3.p.pm
            go_wp2_with (fail)
            go_step3
            exact ⟨⟨n, k, q, d, v, ⟨rfl, rfl, rfl, rfl, rfl, rfl⟩, Lib.hid hRR.out.symm, hqn, hqm, hk, hfl, hpos, I3⟩, by rw [hp3.out, hpm.out]; omega⟩
        · rw [hw1] at W1 hst'
          have hRR := Lib.hid (hst'.trans (if_pos (by decide)))
          clear hst' hw1 hts hbad W2 W3
          go_wp2_with (fail)
          refine W1.mono ?_
          rintro e w1 ⟨rfl, f1⟩
          have I3 := I.up (I.p.no f1) (f1.mono (G := fun k => k = pb) fun _ _ h => h.elim) npb
          have hp3 := Lib.hid I3.p.pm
          go_wp2_with (fail)
          go_step3
          exact ⟨⟨n, k, q, d, v, ⟨rfl, rfl, rfl, rfl, rfl, rfl⟩, Lib.hid hRR.out.symm, hqn, hqm, hk, hfl, hpos, I3⟩, by rw [hp3.out, hpm.out]; omega⟩
    · have q1 : wr.cell? ⟨pb, 1, none⟩ = some (.bool true) := by rw [← hbad]; exact obj_cell hb 1
      have hRR : Hid (R = (d, ⟨q.ts, true⟩)) := Lib.hid (by rw [hst.out, hbad]; rfl)
      clear hst
      have c0 : wr.cell? ⟨w.heap.size + 1, 0, none⟩ = some (.bool v.m) := obj_cell I.b 0
      have c1 : wr.cell? ⟨w.heap.size + 1, 1, none⟩ = some (.slice v.d.p v.d.n v.d.c) := obj_cell I.b 1
      have c2 : wr.cell? ⟨w.heap.size + 1, 2, none⟩ = some (.slice v.s.p v.s.n v.s.c) := obj_cell I.b 2
      have c3 : wr.cell? ⟨w.heap.size + 1, 3, none⟩ = some (.slice v.f.p v.f.n v.f.c) := obj_cell I.b 3
      have Ir := I.r
      have Io := I.o
      have If_ := I.f
      have sf := I.f.size
      have nr := lt_of_block Ir
      have PB := PAt.set hb hr true
      clear I
      go_wp2_with (refine wpList_sto _ rfl (.tmp 2) (.tmp 29) 26 rfl (obj_setCell_ne Ir (by omega) _) (by exact i_doc) (by rfl) v.one rfl rfl ?_)
      intro w8 B8 f8 z8
      have t0 : w8.cell? ⟨w.heap.size, 0, none⟩ = some (.bool v.m) := obj_cell B8 0
      have t1 : w8.cell? ⟨w.heap.size, 1, none⟩ = some (.slice v.d.p v.d.n v.d.c) := obj_cell B8 1
      have t2 : w8.cell? ⟨w.heap.size, 2, none⟩ = some (.slice v.s.p v.s.n v.s.c) := obj_cell B8 2
      have t3 : w8.cell? ⟨w.heap.size, 3, none⟩ = some (.slice v.f.p v.f.n v.f.c) := obj_cell B8 3
      go_wp2_with (fail)
      rw [jump3_ret]
      refine bodyPost_ret (v := .agg #[.bool v.m, .slice v.d.p v.d.n v.d.c, .slice v.s.p v.s.n v.s.c, .slice v.f.p v.f.n v.f.c]) (by simp [results, Tryz.results21, go_sem, *]) rfl ?_
      have G8 : Frm (fun k => k = pb ∨ k = w.heap.size) wr w8 := ((Frm.refl _ wr).sc (b := pb) (Or.inl rfl) 1 _).trans (f8.mono fun k _ h => .inr h)
      have s8 := G8.size
      refine ⟨v, rfl, ?_, ?_, If_.then G8 fun k hk e => by omega⟩
      · rw [hRR.out]
        exact (Io.frm G8 fun k hk e => by have := hk.1; omega).mono fun k hk => ⟨by have := hk.1; omega, by have := hk.2; omega⟩
      · rw [hRR.out]
        exact PB.frm f8 (fun e => by omega) fun k hk e => by omega

  case pass1 =>
    clear h hm hR
    rintro a wr ⟨n, k, q, d, v, ⟨hs, hd, h0, h2, h3, h4⟩, hA, hqn, hqm, hk, hfl, hpos, I⟩
    obtain ⟨u, hu⟩ : ∃ u : Nat → Value, Hid ((fun i => a.tmps.getD i undef) = u) := ⟨_, Lib.hid rfl⟩
    have ha : a = { tmps := #[u 0, u 1, u 2, u 3, u 4, u 5, u 6, u 7, u 8, u 9, u 10, u 11, u 12, u 13, u 14, u 15, u 16, u 17, u 18, u 19, u 20, u 21, u 22, u 23, u 24, u 25, u 26, u 27, u 28, u 29, u 30, u 31, u 32, u 33, u 34, u 35, u 36, u 37, u 38, u 39, u 40, u 41, u 42, u 43, u 44, u 45, u 46, u 47, u 48, u 49, u 50, u 51, u 52, u 53, u 54, u 55, u 56, u 57, u 58, u 59, u 60, u 61, u 62, u 63, u 64, u 65, u 66, u 67, u 68, u 69, u 70, u 71, u 72, u 73, u 74, u 75, u 76, u 77, u 78, u 79, u 80, u 81, u 82, u 83, u 84, u 85, u 86, u 87, u 88, u 89, u 90, u 91, u 92, u 93, u 94], defers := [] } := by
      rw [← hu.out]
      exact act_lit a 95 hs hd
    have e0 : u 0 = .pointer (some ⟨pb, 0, none⟩) := by rw [← hu.out]; exact h0
    have e2 : u 2 = .pointer (some ⟨w.heap.size, 0, none⟩) := by rw [← hu.out]; exact h2
    have e3 : u 3 = .pointer (some ⟨w.heap.size + 1, 0, none⟩) := by rw [← hu.out]; exact h3
    have e4 : u 4 = .int .i64 k := by rw [← hu.out]; exact h4
    rw [e0, e2, e3, e4] at ha
    clear hu hs hd h0 h2 h3 h4
    subst ha
    clear e0 e2 e3 e4
    have hlt := oper1_lt q
    have HL := Lib.hid (lt_m hlt hpos)
    have hpm := Lib.hid I.p.pm
    have hk1 : k ≤ 2049 := by omega
    obtain ⟨B, hB⟩ : ∃ B, Hid (eqB q.nameT tMut = B) := ⟨_, Lib.hid rfl⟩
    obtain ⟨D, hD⟩ : ∃ D : Bool, Hid (decide (q.nameS.peek.kind = 0) = D) := ⟨_, Lib.hid rfl⟩
    have sB : (q.nameT.toList == [109, 117, 116, 97, 116, 105, 111, 110]) = B := (tl_lit _ _).trans hB.out
    have sD : (q.nameS.peek.kind == 0) = D := by rw [← hD.out]; by_cases h : q.nameS.peek.kind = 0 <;> simp [h]
    have hv0 : Hid (oper1 q = (eqB q.nameT tMut, (if decide (q.nameS.peek.kind = 0) then q.nameS.adv else q.nameS).decls.1, (if decide (q.nameS.peek.kind = 0) then q.nameS.adv else q.nameS).decls.2.set.1, (if decide (q.nameS.peek.kind = 0) then q.nameS.adv else q.nameS).decls.2.set.2)) := Lib.hid rfl
    rw [hB.out, hD.out] at hv0
    have hm1 := m_le (nameS_lt q).le
    have hm2 := m_le (adv_lt q.nameS).le
    clear hlt hB hD
    go_wp2_with (fail)
    refine (pname_ok I.p).mono ?_
    rintro e w1 ⟨rfl, P1, f1⟩
    have b1 := f1.obj I.b (by omega)
    have c10 : w1.cell? ⟨w.heap.size + 1, 0, none⟩ = some (.bool v.m) := obj_cell b1 0
    have z1 := obj_frz b1
    have n1 := lt_of_block b1
    have I1 := I.setM P1 f1 npb B
    have HFK := fld_kind q.nameS.peek.kind q.nameS.peek.text q.nameS.peek.int q.nameS.peek.pos
    have HP := peek_ok I1.p
    unfold tval at HP
    clear P1 f1 I
    go_wp2_with (fail)
    refine HP.mono ?_
    rintro e w2 ⟨rfl, f2⟩
    have I2 := I1.up (I1.p.no f2) (f2.mono (G := fun k => k = pb) fun _ _ h => h.elim) npb
    clear I1 f2 HP c10 z1 n1 b1
    rcases D with _ | _
    · have hv : Hid (oper1 q = (B, q.nameS.decls.1, q.nameS.decls.2.set.1, q.nameS.decls.2.set.2)) := Lib.hid hv0.out
      clear hv0
      have I3 := I2
      have P3 := I3.p
      clear I2
      go_wp2_with (fail)
      have O4m := m_le (decls_le q.nameS)
      refine (decls_ok P3 (by omega)).mono ?_
      rintro e w4 ⟨ad, nd, cd, rfl, O4, P4, f4⟩
      have b4 := f4.obj I3.b (by omega)
      have c41 : w4.cell? ⟨w.heap.size + 1, 1, none⟩ = some (.slice v.d.p v.d.n v.d.c) := obj_cell b4 1
      have z4 := obj_frz b4
      have n4 := lt_of_block b4
      have I4 := I3.setD P4 f4 npb (s := ⟨ad, nd, cd⟩) O4
      have P4' := I4.p
      clear O4 P4 f4 P3 I3
      go_wp2_with (fail)
      refine (set_ok P4' (by omega)).mono ?_
      rintro e w5 ⟨as_, ns, cs, rfl, S5, P5, f5⟩
      have b5 := f5.obj I4.b (by omega)
      have c52 : w5.cell? ⟨w.heap.size + 1, 2, none⟩ = some (.slice v.s.p v.s.n v.s.c) := obj_cell b5 2
      have z5 := obj_frz b5
      have n5 := lt_of_block b5
      have I5 := I4.setS P5 f5 npb (s := ⟨as_, ns, cs⟩) S5
      have hp5 := Lib.hid I5.p.pm
      clear S5 P5 f5 P4' I4 c41 z4 n4 b4
      go_wp2_with (fail)
      go_step3
      refine ⟨⟨n, k + 1, (oper1 q).2.2.2, _, _, ⟨rfl, rfl, rfl, rfl, rfl, rfl⟩, hA, ?_, ?_, ?_, ?_, by rw [hv.out]; exact I5⟩, ?_⟩
      · have := HL.out; omega
      · have := HL.out; omega
      · have := HL.out; omega
      · have := HL.out; show d.frags.length + _ ≤ _; omega
      · rw [hpm.out]
        have h1 := HL.out
        have h2 := hp5.out
        rw [hv.out] at h1
        simp only at h1 ⊢
        omega
    · have hv : Hid (oper1 q = (B, q.nameS.adv.decls.1, q.nameS.adv.decls.2.set.1, q.nameS.adv.decls.2.set.2)) := Lib.hid hv0.out
      clear hv0
      go_wp2_with (fail)
      refine (take_ok I2.p).mono ?_
      rintro e w3 ⟨rfl, P3, f3⟩
      have I3 := I2.up P3 f3 npb
      clear I2 f3
      go_wp2_with (fail)
      have O4m := m_le (decls_le q.nameS.adv)
      refine (decls_ok P3 (by omega)).mono ?_
      rintro e w4 ⟨ad, nd, cd, rfl, O4, P4, f4⟩
      have b4 := f4.obj I3.b (by omega)
      have c41 : w4.cell? ⟨w.heap.size + 1, 1, none⟩ = some (.slice v.d.p v.d.n v.d.c) := obj_cell b4 1
      have z4 := obj_frz b4
      have n4 := lt_of_block b4
      have I4 := I3.setD P4 f4 npb (s := ⟨ad, nd, cd⟩) O4
      have P4' := I4.p
      clear O4 P4 f4 P3 I3
      go_wp2_with (fail)
      refine (set_ok P4' (by omega)).mono ?_
      rintro e w5 ⟨as_, ns, cs, rfl, S5, P5, f5⟩
      have b5 := f5.obj I4.b (by omega)
      have c52 : w5.cell? ⟨w.heap.size + 1, 2, none⟩ = some (.slice v.s.p v.s.n v.s.c) := obj_cell b5 2
      have z5 := obj_frz b5
      have n5 := lt_of_block b5
      have I5 := I4.setS P5 f5 npb (s := ⟨as_, ns, cs⟩) S5
      have hp5 := Lib.hid I5.p.pm
      clear S5 P5 f5 P4' I4 c41 z4 n4 b4
      go_wp2_with (fail)
      go_step3
      refine ⟨⟨n, k + 1, (oper1 q).2.2.2, _, _, ⟨rfl, rfl, rfl, rfl, rfl, rfl⟩, hA, ?_, ?_, ?_, ?_, by rw [hv.out]; exact I5⟩, ?_⟩
      · have := HL.out; omega
      · have := HL.out; omega
      · have := HL.out; omega
      · have := HL.out; show d.frags.length + _ ≤ _; omega
      · rw [hpm.out]
        have h1 := HL.out
        have h2 := hp5.out
        rw [hv.out] at h1
        simp only at h1 ⊢
        omega
  case pass0 =>
    clear h hm hR
    rintro a wr ⟨n, k, q, d, v, ⟨hs, hd, h0, h2, h3, h4⟩, hA, hqn, hqm, hk, hfl, hpos, I⟩
    obtain ⟨u, hu⟩ : ∃ u : Nat → Value, Hid ((fun i => a.tmps.getD i undef) = u) := ⟨_, Lib.hid rfl⟩
    have ha : a = { tmps := #[u 0, u 1, u 2, u 3, u 4, u 5, u 6, u 7, u 8, u 9, u 10, u 11, u 12, u 13, u 14, u 15, u 16, u 17, u 18, u 19, u 20, u 21, u 22, u 23, u 24, u 25, u 26, u 27, u 28, u 29, u 30, u 31, u 32, u 33, u 34, u 35, u 36, u 37, u 38, u 39, u 40, u 41, u 42, u 43, u 44, u 45, u 46, u 47, u 48, u 49, u 50, u 51, u 52, u 53, u 54, u 55, u 56, u 57, u 58, u 59, u 60, u 61, u 62, u 63, u 64, u 65, u 66, u 67, u 68, u 69, u 70, u 71, u 72, u 73, u 74, u 75, u 76, u 77, u 78, u 79, u 80, u 81, u 82, u 83, u 84, u 85, u 86, u 87, u 88, u 89, u 90, u 91, u 92, u 93, u 94], defers := [] } := by
      rw [← hu.out]
      exact act_lit a 95 hs hd
    have e0 : u 0 = .pointer (some ⟨pb, 0, none⟩) := by rw [← hu.out]; exact h0
    have e2 : u 2 = .pointer (some ⟨w.heap.size, 0, none⟩) := by rw [← hu.out]; exact h2
    have e3 : u 3 = .pointer (some ⟨w.heap.size + 1, 0, none⟩) := by rw [← hu.out]; exact h3
    have e4 : u 4 = .int .i64 k := by rw [← hu.out]; exact h4
    rw [e0, e2, e3, e4] at ha
    clear hu hs hd h0 h2 h3 h4
    subst ha
    clear e0 e2 e3 e4
    have hlt := frag1_lt q
    have HL := Lib.hid (lt_m hlt hpos)
    have hpm := Lib.hid I.p.pm
    have hk1 : k ≤ 2049 := by omega
    obtain ⟨q4, hq4⟩ : ∃ q4, Hid ((q.adv.nameS.known tOn).nameS = q4) := ⟨_, Lib.hid rfl⟩
    obtain ⟨on, hon⟩ : ∃ on, Hid ((q.adv.nameS.known tOn).nameT = on) := ⟨_, Lib.hid rfl⟩
    have hv : Hid (frag1 q = (⟨q.adv.nameT, on, q4.set.1⟩, q4.set.2)) := Lib.hid (by rw [← hq4.out, ← hon.out]; rfl)
    have hm4 : q4.m ≤ 2048 := by
      rw [← hq4.out]
      exact Nat.le_trans (m_le ((nameS_lt _).trans ((known_lt _ _).trans ((nameS_lt _).trans (adv_lt q)))).le) hqm
    have sz0 : w.heap.size + 2 ≤ wr.heap.size := lt_of_block I.b
    clear hlt
    go_wp2_with (fail)
    refine (take_ok I.p).mono ?_
    rintro e w1 ⟨rfl, P1, f1⟩
    have I1 := I.up P1 f1 npb
    have sz1 : w.heap.size + 2 ≤ w1.heap.size := lt_of_block I1.b
    clear I f1
    obtain ⟨G, C, rs, hG, hC, OG, OC, close⟩ := I1.o.openF
    have HG := Lib.hid hG
    have HC := Lib.hid hC
    have CL := Lib.hid close
    clear hG hC close
    have c3 : w1.cell? ⟨w.heap.size + 1, 3, none⟩ = some (.slice v.f.p v.f.n v.f.c) := obj_cell I1.b 3
    have n1 := lt_of_block I1.b
    go_wp2_with (fail)
    refine wp_region_plan [([0, 1, 2, 3], [1]), ([4], [1]), ([5], [1]), ([6, 7, 8], [])] 95 (by kernel_rfl) (by kernel_rfl) (by simp) ?_
    intro N hN
    simp only [wpSegs, List.map_cons, List.map_nil, List.getD_cons_zero, List.getD_cons_succ]
    have P1d := P1.no (Frm.drew No w1)
    go_wp2_with (fail)
    refine (pname_ok P1d).mono ?_
    rintro e w2 ⟨rfl, P2, f2⟩
    have F12 : Frm (fun k => k = pb) w1 w2 := (Frm.drew _ w1).trans f2
    have b2 := F12.obj I1.b (by omega)
    have r2 := F12.obj I1.r (by omega)
    have c32 : w2.cell? ⟨w.heap.size + 1, 3, none⟩ = some (.slice v.f.p v.f.n v.f.c) := obj_cell b2 3
    have z2 := obj_frz b2
    have n2 := lt_of_block b2
    have sz2 := F12.size
    have OG2 : Ow w2 G 53 eFg (.slice v.f.p v.f.n v.f.c) rs := OG.frm F12 fun k hk e => by have e' : k = pb := e; have := (HG.out k hk).1.1; omega
    have OC2 : OwFgs w2 C rs d.frags := OwFgs.frm F12 (fun k hk e => by have e' : k = pb := e; have := (HC.out k hk).1; omega) OC
    have hno := OG2.cap.1
    have hrl := OC2.len
    have hno' : v.f.n ≤ 2049 := by omega
    have HN := Lib.hid hno
    have HRL := Lib.hid hrl
    clear hrl hno f2 P1d OG OC P1 c3 n1
    go_wp2_with (fail)
    refine ⟨again_cons (again_of rfl rfl ?_) again_nil, ?_⟩
    · go_simp
    go_wp2_with (fail)
    refine ⟨again_cons (again_of rfl rfl ?_) again_nil, ?_⟩
    · go_simp
    go_wp2_with (fail)
    refine ⟨again_cons (again_of rfl rfl ?_) again_nil, ?_⟩
    · go_simp
    go_wp2_with (at_builtin; refine wpList_ap _ rfl (.tmp 66) (.tmp 70) 24 24 rfl 53 _ 56 Tryz.underlying24 i_fg rfl (OG2.al _) ((RdS.lit1 _ eFg ⟨q.adv.nameT, noTx, nilSh⟩ _).src Tryz.underlying24) rfl rfl rfl ?c1 ?c2 ?_)
    case c1 => rw [← HN.out]; unfold maxLen; omega
    case c2 => rw [← HN.out]; omega
    intro a3 c3 w3 o3 f3
    have HNN : rs.length + 1 = v.f.n + 1 := by rw [HN.out]
    have al2 : Frm No w2 (w2.alloc (.cells #[.string q.adv.nameT, .string ⟨#[]⟩, .slice none 0 0] 53 (0, 0))) := Frm.alloc No _ _
    have b3 := f3.obj (al_old (o' := .cells #[.string q.adv.nameT, .string ⟨#[]⟩, .slice none 0 0] 53 (0, 0)) b2) (fun h => by have := (HG.out _ h).1.1; omega)
    have r3 := f3.obj (al_old (o' := .cells #[.string q.adv.nameT, .string ⟨#[]⟩, .slice none 0 0] 53 (0, 0)) r2) (fun h => by have := (HG.out _ h).1.1; omega)
    have P3 := (P2.no al2).frm f3 (fun h => by have := (HG.out _ h).1.1; omega) fun k hk h => by have := (HG.out _ h).1.1; omega
    have OC3 : OwFgs w3 C rs d.frags := OwFgs.frm f3 (fun k hk h => (HG.out k h).2 hk) (OwFgs.frm al2 (fun _ _ h => h) OC2)
    have s3 := f3.size
    have s3' : w2.heap.size < w3.heap.size := by simp at s3; omega
    have F13 : Frm (fun k => k = pb ∨ k = w.heap.size + 1 ∨ G k ∨ w1.heap.size ≤ k) w1 w3 := ((F12.mono fun k _ e => .inl e).trans (al2.mono fun _ _ h => h.elim)).trans (f3.mono fun k _ h => .inr (.inr (.inl h)))
    have o3' : Ow w3 (fun k => (G k ∨ Bt w1.heap.size w3.heap.size k) ∧ ¬ C k) 53 eFg (.slice a3 (v.f.n + 1) c3) (rs ++ [⟨q.adv.nameT, noTx, nilSh⟩]) := by
      rw [HN.out]
      refine o3.mono fun k hk h => ?_
      rcases h with h | h
      · exact ⟨.inl h, (HG.out k h).2⟩
      · have h1 := h.1
        simp at h1
        exact ⟨.inr ⟨by omega, hk⟩, fun hc => by have := (HC.out k hc).2; omega⟩
    have c33 : w3.cell? ⟨w.heap.size + 1, 3, none⟩ = some (.slice v.f.p v.f.n v.f.c) := obj_cell b3 3
    have z3 := obj_frz b3
    have n3 := lt_of_block b3
    have n3p := P3.lt
    have J3 : FragI w w1 (w3.setCell ⟨w.heap.size + 1, 3, none⟩ (.slice a3 (v.f.n + 1) c3)) pb q.adv.nameS d v G C rs ⟨a3, v.f.n + 1, c3⟩ ⟨q.adv.nameT, noTx, nilSh⟩ := by
      have g : Frm (fun k => k = w.heap.size + 1) w3 (w3.setCell ⟨w.heap.size + 1, 3, none⟩ (.slice a3 (v.f.n + 1) c3)) := Frm.setCell _ ⟨w.heap.size + 1, 3, none⟩ _ rfl
      have e : (w3.setCell ⟨w.heap.size + 1, 3, none⟩ (.slice a3 (v.f.n + 1) c3)).heap.size = w3.heap.size := by simp
      refine ⟨P3.frm g (by omega) fun k hk => by omega, ?_, g.obj r3 (by omega), ?_, OwFgs.frm g (fun k hk e => by have e' : k = w.heap.size + 1 := e; have := (HC.out k hk).1; omega) OC3, F13.trans (g.mono fun k _ e => .inr (.inl e))⟩
      · have := obj_setCell (i := 3) b3 (.slice a3 (v.f.n + 1) c3)
        exact this
      · rw [e]
        refine o3'.frm g fun k hk e => ?_
        have e' : k = w.heap.size + 1 := e
        rcases hk.1 with h | h
        · have := (HG.out k h).1.1; omega
        · have := h.1; omega
    clear o3 f3 P3 OC3 F13 o3' r3 al2 P2 OG2 OC2 F12 b2 r2 c32 z2 n2 s3 b3 n3p
    have hG2 : ∀ k, G k → w.heap.size + 2 ≤ k := fun k h => (HG.out k h).1.1
    have hC2 : ∀ k, C k → w.heap.size + 2 ≤ k := fun k h => (HC.out k h).1
    obtain ⟨g, rfl⟩ : ∃ g, a3 = some ⟨g, 0, none⟩ := by
      obtain ⟨g, row, e1, _⟩ := J3.o.cases (Nat.succ_pos _)
      exact ⟨g, e1⟩
    have hAA : Hid (allL n q4.set.2 k (dmF d ⟨q.adv.nameT, on, q4.set.1⟩) = R) := Lib.hid (by have := hA.out; rw [hv.out] at this; exact this)
    rw [hv.out] at HL
    simp only at HL
    clear hA hv
    go_wp2_with (fail)
    refine (known_ok J3.p tOn).mono ?_
    rintro e w4 ⟨rfl, P4, f4⟩
    have J4 := J3.up P4 f4 npb hG2 hC2 sz1
    clear P4 f4 J3 c33 z3 n3
    have J4d := J4.up (J4.p.no (Frm.drew No w4)) (Frm.drew _ w4) npb hG2 hC2 sz1
    have HNM := pname_ok J4d.p
    rw [hon.out, hq4.out] at HNM
    have c34 : w4.cell? ⟨w.heap.size + 1, 3, none⟩ = some (.slice (some ⟨g, 0, none⟩) (v.f.n + 1) c3) := obj_cell J4.b 3
    have n4 := lt_of_block J4.b
    clear J4
    go_wp2_with (fail)
    refine wp_region_fork (.seg [0, 1, 2, 3, 4, 6] [] (.fork 5 [1] (.seg [7] [1] (.seg [8, 9, 10] [] .nil)) 7 [3, 1] (.seg [5] [1] (.seg [8, 9, 10] [] .nil)))) 95 (by kernel_rfl) (by kernel_rfl) (by simp) ?_
    intro N hN
    simp only [wpST, wpSg, List.map_cons, List.map_nil, List.getD_cons_zero, List.getD_cons_succ]
    have K : ∀ a W, ((a.tmps.size = 95 ∧ a.defers = [] ∧ a.tmps.getD 0 undef = .pointer (some ⟨pb, 0, none⟩) ∧ a.tmps.getD 2 undef = .pointer (some ⟨w.heap.size, 0, none⟩) ∧ a.tmps.getD 3 undef = .pointer (some ⟨w.heap.size + 1, 0, none⟩) ∧ a.tmps.getD 4 undef = .int .i64 k) ∧ FragI w w1 W pb q4 d v G C rs ⟨some ⟨g, 0, none⟩, v.f.n + 1, c3⟩ ⟨q.adv.nameT, on, nilSh⟩) → N a W := by
      clear HNM J4d c34 n4 u
      rintro a W ⟨⟨hs, hd, h0, h2, h3, h4⟩, J⟩
      obtain ⟨u, hu⟩ : ∃ u : Nat → Value, Hid ((fun i => a.tmps.getD i undef) = u) := ⟨_, Lib.hid rfl⟩
      have ha : a = { tmps := #[u 0, u 1, u 2, u 3, u 4, u 5, u 6, u 7, u 8, u 9, u 10, u 11, u 12, u 13, u 14, u 15, u 16, u 17, u 18, u 19, u 20, u 21, u 22, u 23, u 24, u 25, u 26, u 27, u 28, u 29, u 30, u 31, u 32, u 33, u 34, u 35, u 36, u 37, u 38, u 39, u 40, u 41, u 42, u 43, u 44, u 45, u 46, u 47, u 48, u 49, u 50, u 51, u 52, u 53, u 54, u 55, u 56, u 57, u 58, u 59, u 60, u 61, u 62, u 63, u 64, u 65, u 66, u 67, u 68, u 69, u 70, u 71, u 72, u 73, u 74, u 75, u 76, u 77, u 78, u 79, u 80, u 81, u 82, u 83, u 84, u 85, u 86, u 87, u 88, u 89, u 90, u 91, u 92, u 93, u 94], defers := [] } := by
        rw [← hu.out]
        exact act_lit a 95 hs hd
      have e0 : u 0 = .pointer (some ⟨pb, 0, none⟩) := by rw [← hu.out]; exact h0
      have e2 : u 2 = .pointer (some ⟨w.heap.size, 0, none⟩) := by rw [← hu.out]; exact h2
      have e3 : u 3 = .pointer (some ⟨w.heap.size + 1, 0, none⟩) := by rw [← hu.out]; exact h3
      have e4 : u 4 = .int .i64 k := by rw [← hu.out]; exact h4
      rw [e0, e2, e3, e4] at ha
      clear hu hs hd h0 h2 h3 h4
      subst ha
      clear e0 e2 e3 e4
      have c3W : W.cell? ⟨w.heap.size + 1, 3, none⟩ = some (.slice (some ⟨g, 0, none⟩) (v.f.n + 1) c3) := obj_cell J.b 3
      have nW := lt_of_block J.b
      have J := J.up (J.p.no (Frm.drew No W)) (Frm.drew _ W) npb hG2 hC2 sz1
      refine hN _ _ ?_
      go_wp2_with (fail)
      refine wp_region_fork (.seg [0, 1, 2, 3, 4, 6] [] (.fork 5 [1] (.seg [7] [1] (.seg [8, 9, 10] [] .nil)) 7 [3, 1] (.seg [5] [1] (.seg [8, 9, 10] [] .nil)))) 95 (by kernel_rfl) (by kernel_rfl) (by simp) ?_
      intro N' hN'
      simp only [wpST, wpSg, List.map_cons, List.map_nil, List.getD_cons_zero, List.getD_cons_succ]
      go_wp2_with (fail)
      refine ⟨?_, ?_⟩
      · go_wp2_with (fail)
        refine ⟨again_cons (again_of rfl rfl ?_) again_nil, ?_⟩
        · go_simp
        go_wp2_with (fail)
        refine (set_ok J.p hm4).mono ?_
        rintro e w8 ⟨as_, ns, cs, rfl, S8, P8, f8⟩
        have b8 := f8.obj J.b (by omega)
        have c38 : w8.cell? ⟨w.heap.size + 1, 3, none⟩ = some (.slice (some ⟨g, 0, none⟩) (v.f.n + 1) c3) := obj_cell b8 3
        have n8 := lt_of_block b8
        have O8 := (J.o.mono (G := fun k => ((G k ∨ Bt w1.heap.size (W.drew).heap.size k) ∧ ¬ C k) ∧ k < (W.drew).heap.size) fun k hk h => ⟨h, hk⟩).frm f8 fun k hk e => by
          have e' : k = pb := e
          rcases hk.1.1 with h | h
          · have := hG2 k h; omega
          · have := h.1; omega
        go_wp2_with (fail)
        refine ⟨again_cons (again_of rfl rfl ?_) again_nil, ?_⟩
        · go_simp
        go_wp2_with (refine wpList_last _ rfl (.tmp 94) (.tmp 92) 23 rfl (⟨q.adv.nameT, on, ⟨as_, ns, cs⟩⟩ : FgC) O8 (v := .slice as_ ns cs) (vs := [.slice as_ ns cs]) (j := 2) rfl (by kernel_rfl) (by show 3 ≤ 3; omega) rfl (by intro u hu; simp at hu; subst hu; rfl) rfl rfl ?hoff ?_)
        case hoff => show _ = rs.length * 3 + 2; rw [← HN.out]
        intro w9 O9 hga hgb hgc f9 z9
        have hg := And.intro (And.intro hga hgb) hgc
        have I9 := FragI.close (t := ⟨as_, ns, cs⟩) I1 J f8 P8 S8 f9 z9 hg O9 npb HG.out HC.out sz1 CL.out
        have hp9 := Lib.hid I9.p.pm
        go_wp2_with (fail)
        go_step3
        refine ⟨⟨n, k, q4.set.2, _, _, ⟨rfl, rfl, rfl, rfl, rfl, rfl⟩, hAA, ?_, ?_, ?_, ?_, I9⟩, ?_⟩
        · have := HL.out; omega
        · have := HL.out; omega
        · have := HL.out; omega
        · have := HL.out; show (d.frags ++ [_]).length + _ ≤ _; rw [List.length_append]; simp only [List.length_cons, List.length_nil]; omega
        · rw [hp9.out, hpm.out]; have := HL.out; omega
      · go_wp2_with (fail)
        refine (set_ok J.p hm4).mono ?_
        rintro e w8 ⟨as_, ns, cs, rfl, S8, P8, f8⟩
        have b8 := f8.obj J.b (by omega)
        have c38 : w8.cell? ⟨w.heap.size + 1, 3, none⟩ = some (.slice (some ⟨g, 0, none⟩) (v.f.n + 1) c3) := obj_cell b8 3
        have n8 := lt_of_block b8
        have O8 := (J.o.mono (G := fun k => ((G k ∨ Bt w1.heap.size (W.drew).heap.size k) ∧ ¬ C k) ∧ k < (W.drew).heap.size) fun k hk h => ⟨h, hk⟩).frm f8 fun k hk e => by
          have e' : k = pb := e
          rcases hk.1.1 with h | h
          · have := hG2 k h; omega
          · have := h.1; omega
        go_wp2_with (fail)
        refine ⟨again_cons (again_of rfl rfl ?_) (again_cons (again_of rfl rfl ?_) again_nil), ?_⟩
        · go_simp
        · go_simp
        go_wp2_with (fail)
        refine ⟨again_cons (again_of rfl rfl ?_) again_nil, ?_⟩
        · go_simp
        go_wp2_with (refine wpList_last _ rfl (.tmp 94) (.tmp 92) 23 rfl (⟨q.adv.nameT, on, ⟨as_, ns, cs⟩⟩ : FgC) O8 (v := .slice as_ ns cs) (vs := [.slice as_ ns cs]) (j := 2) rfl (by kernel_rfl) (by show 3 ≤ 3; omega) rfl (by intro u hu; simp at hu; subst hu; rfl) rfl rfl ?hoff ?_)
        case hoff => show _ = rs.length * 3 + 2; rw [← HN.out]
        intro w9 O9 hga hgb hgc f9 z9
        have hg := And.intro (And.intro hga hgb) hgc
        have I9 := FragI.close (t := ⟨as_, ns, cs⟩) I1 J f8 P8 S8 f9 z9 hg O9 npb HG.out HC.out sz1 CL.out
        have hp9 := Lib.hid I9.p.pm
        go_wp2_with (fail)
        go_step3
        refine ⟨⟨n, k, q4.set.2, _, _, ⟨rfl, rfl, rfl, rfl, rfl, rfl⟩, hAA, ?_, ?_, ?_, ?_, I9⟩, ?_⟩
        · have := HL.out; omega
        · have := HL.out; omega
        · have := HL.out; omega
        · have := HL.out; show (d.frags ++ [_]).length + _ ≤ _; rw [List.length_append]; simp only [List.length_cons, List.length_nil]; omega
        · rw [hp9.out, hpm.out]; have := HL.out; omega

    clear hN
    go_wp2_with (fail)
    refine ⟨?_, ?_⟩
    · go_wp2_with (fail)
      refine ⟨again_cons (again_of rfl rfl ?_) again_nil, ?_⟩
      · go_simp
      go_wp2_with (fail)
      refine HNM.mono ?_
      rintro e w5 ⟨rfl, P5, f5⟩
      have J5 := J4d.up P5 f5 npb hG2 hC2 sz1
      have c35 : w5.cell? ⟨w.heap.size + 1, 3, none⟩ = some (.slice (some ⟨g, 0, none⟩) (v.f.n + 1) c3) := obj_cell J5.b 3
      have n5 := lt_of_block J5.b
      go_wp2_with (fail)
      refine ⟨again_cons (again_of rfl rfl ?_) again_nil, ?_⟩
      · go_simp
      go_wp2_with (refine wpList_last _ rfl (.tmp 84) (.tmp 82) 9 rfl (⟨q.adv.nameT, on, nilSh⟩ : FgC) J5.o (v := .string on) (vs := [.string on]) (j := 1) rfl (by kernel_rfl) (by show 2 ≤ 3; omega) rfl (by intro u hu; simp at hu; subst hu; rfl) rfl rfl ?hoff ?_)
      case hoff => show _ = rs.length * 3 + 1; rw [← HN.out]
      intro w6 O6 hga hgb f6 z6
      have hg := And.intro hga hgb
      have J6 := J5.last f6 z6 hg O6 npb hG2 sz1
      go_wp2_with (fail)
    · go_wp2_with (fail)
      refine HNM.mono ?_
      rintro e w5 ⟨rfl, P5, f5⟩
      have J5 := J4d.up P5 f5 npb hG2 hC2 sz1
      have c35 : w5.cell? ⟨w.heap.size + 1, 3, none⟩ = some (.slice (some ⟨g, 0, none⟩) (v.f.n + 1) c3) := obj_cell J5.b 3
      have n5 := lt_of_block J5.b
      go_wp2_with (fail)
      refine ⟨again_cons (again_of rfl rfl ?_) (again_cons (again_of rfl rfl ?_) again_nil), ?_⟩
      · go_simp
      · go_simp
      go_wp2_with (fail)
      refine ⟨again_cons (again_of rfl rfl ?_) again_nil, ?_⟩
      · go_simp
      go_wp2_with (refine wpList_last _ rfl (.tmp 84) (.tmp 82) 9 rfl (⟨q.adv.nameT, on, nilSh⟩ : FgC) J5.o (v := .string on) (vs := [.string on]) (j := 1) rfl (by kernel_rfl) (by show 2 ≤ 3; omega) rfl (by intro u hu; simp at hu; subst hu; rfl) rfl rfl ?hoff ?_)
      case hoff => show _ = rs.length * 3 + 1; rw [← HN.out]
      intro w6 O6 hga hgb f6 z6
      have hg := And.intro hga hgb
      have J6 := J5.last f6 z6 hg O6 npb hG2 sz1
      go_wp2_with (fail)
  case first =>
    intro pass
    have HPS := Lib.hid pass.2.2
    clear pass
    have F0 : Frm No w ((w.alloc (.cells #[.bool false, .slice none 0 0, .slice none 0 0, .slice none 0 0] 26 (0, 0))).alloc (.cells #[.bool false, .slice none 0 0, .slice none 0 0, .slice none 0 0] 26 (0, 0))) := ((Frm.refl No w).al _).al _
    have B1 := heap_alloc_new (w.alloc (.cells #[.bool false, .slice none 0 0, .slice none 0 0, .slice none 0 0] 26 (0, 0))) (.cells #[.bool false, .slice none 0 0, .slice none 0 0, .slice none 0 0] 26 (0, 0))
    have B0 := al_old (o' := (.cells #[.bool false, .slice none 0 0, .slice none 0 0, .slice none 0 0] 26 (0, 0))) (heap_alloc_new w (.cells #[.bool false, .slice none 0 0, .slice none 0 0, .slice none 0 0] 26 (0, 0)))
    go_wp2_with (fail)
    go_step3
    simp only [Exit.then]
    rename_i hk
    refine hk _ _ (HPS.out _ _ ⟨p.m + 1, 0, p, emDm, ⟨false, nilSh, nilSh, nilSh⟩, ⟨rfl, rfl, rfl, rfl, rfl, rfl⟩, hR, Nat.lt_succ_self _, hm, by omega, by show 0 + p.m ≤ 2049; omega, ⟨h.no F0, ?_, OwDoc.em _ _, B0, F0.mono fun _ _ h => h.elim⟩⟩)
    have e : (w.alloc (.cells #[.bool false, .slice none 0 0, .slice none 0 0, .slice none 0 0] 26 (0, 0))).heap.size = w.heap.size + 1 := by simp
    rw [e] at B1
    exact B1
end Go.Proofs.YthaegncocdddfaaGreatDoor

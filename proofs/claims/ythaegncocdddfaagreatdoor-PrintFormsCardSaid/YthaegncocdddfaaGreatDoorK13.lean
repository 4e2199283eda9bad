/- Merged: DocW9 DocW10. -/
import Derived.Test.YthaegncocdddfaaGreatDoorK12
/- The parser's steps, walked: set. -/
namespace Go.Proofs.YthaegncocdddfaaGreatDoor
set_option linter.unusedVariables false
set_option linter.unusedSimpArgs false
set_option linter.unusedVariables false
set_option linter.unusedSimpArgs false
open Go.RowKit Go.Lib Go.Tt
theorem sel_ok {n : Nat} (hset : SetC n) {w : World} {pb : Nat} {p : PS} (h : PAt w pb p) (hm : p.m ≤ 2048) (hn : p.bad = false → p.m < n) :
    Calls Tryz.prog 70 #[.pointer (some ⟨pb, 0, none⟩)] w fun e w' => ∃ r : SelC, e = .returned (.agg #[.bool r.sp, .string r.al, .string r.nm, .slice r.a.p r.a.n r.a.c, .slice r.i.p r.i.n r.i.c, .slice r.s.p r.s.n r.s.c]) ∧ OwSel w' (Nb w w') r (selL (setL n) p).1 ∧ PAt w' pb (selL (setL n) p).2 ∧ Frm (fun k => k = pb) w w' := by
  unfold selL
  rcases hk : p.mark tDots with _ | _
  · exact sel_plain hset h hm hn hk
  · exact sel_spread h hm hk
/-- A literal of one element is one's own. -/
theorem ow_lit {α : Type} {w : World} {E : Enc α} {x : α} {e : TypeId} {g : Nat} (hg : w.heap[g]? = some (.cells (E.f x).toArray e (0, 0))) : Ow w (fun k => k = g) e E (.slice (some ⟨g, 0, none⟩) 1 1) [x] :=
  Ow.row (l := [x]) hg rfl (Nat.le_refl _) (by decide) (by simp [E.len]) (by rw [E.flat_one, List.toList_toArray]; exact List.take_of_length_le (by rw [E.len]; simp))
theorem OwAll.nil (w : World) (F : Nat → Prop) : OwAll w F [] [] := by unfold OwAll; rfl
set_option maxHeartbeats 8000000 in
set_option maxRecDepth 100000 in
theorem set_step {n : Nat} (hset : SetC n) : SetC (n + 1) := by
  intro w pb p h hm hn _
  have npb := h.lt
  have hp1 := want_lt p (mC 123)
  have hn1 : Hid ((p.want (mC 123)).bad = false → (p.want (mC 123)).m < n) := Lib.hid (fun hb => by have := hp1.2 hb; have := hn (nb hp1.1 hb); omega)
  have hm1 : (p.want (mC 123)).m ≤ 2048 := Nat.le_trans (m_le hp1.le) hm
  obtain ⟨R, hR⟩ : ∃ R, Hid (setL (n + 1) p = R) := ⟨_, Lib.hid rfl⟩
  rw [hR.out]
  have hR1 : Hid (setGo (selL (setL n)) ((selL (setL n) (p.want (mC 123))).2.m + 2) (selL (setL n) (p.want (mC 123))).2 [(selL (setL n) (p.want (mC 123))).1] = R) := Lib.hid hR.out
  have hsl := selL_lt (setL_le n) (p.want (mC 123))
  have HSL := Lib.hid hsl
  have HS := Lib.hid (fun W q (h : PAt W pb q) => sel_ok hset (w := W) (pb := pb) (p := q) h)
  clear hR hp1 hn hsl hset
  go_enter Tryz.func36, Tryz.ntmps36
  go_wp2_with (fail)
  refine (want_ok h (mC 123)).mono ?_
  rintro e w1 ⟨rfl, P1, f1⟩
  clear h
  go_wp2_with (fail)
  refine (HS.out _ _ P1 hm1 hn1.out).mono ?_
  rintro e w2 ⟨r, rfl, S2, P2, f2⟩
  have F2 := f1.trans f2
  have s2 := F2.size
  have s12 := f2.size
  have s1 := f1.size
  have npb2 := P2.lt
  obtain ⟨q, hq⟩ : ∃ q, Hid ((selL (setL n) (p.want (mC 123))).2 = q) := ⟨_, Lib.hid rfl⟩
  obtain ⟨x, hx⟩ : ∃ x, Hid ((selL (setL n) (p.want (mC 123))).1 = x) := ⟨_, Lib.hid rfl⟩
  rw [hq.out] at P2 hR1 HSL
  rw [hx.out] at S2 hR1
  have hb1 : Hid (q.bad = false → 1 + q.m ≤ 2049 ∧ q.m < n ∧ q.m ≤ 2048) := Lib.hid (fun hb => by have := HSL.out.2 hb; have := hn1.out (nb HSL.out.1 hb); omega)
  clear P1 f1 f2 hq hx HSL hn1
  go_wp2_with (fail)
  go_loopg [3] (q.m + 2) (fun g ov wr => ∃ (k : Nat) (q : PS) (acc : List Sl) (rs : List SelC) (G C : Nat → Prop) (ao : Option Addr) (no co : Nat), ov = .slice ao no co ∧ g = k + 1 ∧ Hid (setGo (selL (setL n)) (k + 1) q acc = R) ∧ (q.bad = false → q.m < k) ∧ acc.length ≤ 2050 ∧ Hid (q.bad = false → acc.length + q.m ≤ 2049 ∧ q.m < n ∧ q.m ≤ 2048) ∧
    PAt wr pb q ∧ Ow wr G 51 eSel (.slice ao no co) rs ∧ OwAll wr C rs acc ∧ (∀ k, G k → w.heap.size ≤ k ∧ k < wr.heap.size ∧ ¬ C k) ∧ (∀ k, C k → w.heap.size ≤ k ∧ k < wr.heap.size) ∧ Frm (fun k => k = pb) w wr)
  case atStart =>
    refine ⟨q.m + 1, q, [x], [r], fun k => k = w2.heap.size, fun k => False ∨ Nb w1 w2 k, _, _, _, rfl, rfl, hR1, fun _ => Nat.lt_succ_self _, by simp, hb1, P2.no (Frm.alloc No _ _), ow_lit (heap_alloc_new w2 _), ?_, ?_, ?_, F2.al _⟩
    · exact (OwAll.snoc S2 (fun k _ h => h) (OwAll.nil w2 fun _ => False)).frm (X := No) (Frm.alloc No _ _) fun _ _ h => h
    · intro k hk
      subst hk
      refine ⟨s2, by simp, ?_⟩
      rintro (h | h)
      · exact h
      · exact Nat.lt_irrefl _ h.2
    · rintro k (h | h)
      · exact h.elim
      · have := h.1; have := h.2; simp; omega
  case round =>
    clear P2 S2 F2 s2 s12 s1 npb2 hb1 hR1 hm1
    obtain ⟨k, q, acc, rs, G, C, ao, no, co, rfl, hg, hA, hqk, hal, hqb, P, O, A, hG, hC, F⟩ := hrel
    have HG := Lib.hid hG
    have HC := Lib.hid hC
    have hGG := Lib.hid hg
    clear hG hC hg
    have hst : Hid (R = if (!q.bad && !q.mark (mC 125)) = true then setGo (selL (setL n)) k (selL (setL n) q).2 (acc ++ [(selL (setL n) q).1]) else (acc, q.want (mC 125))) := Lib.hid (by rw [← hA.out]; rfl)
    clear hA
    have hq1 : ∀ B, q.bad = B → wr.cell? ⟨pb, 1, none⟩ = some (.bool B) := fun B e => by
      obtain ⟨a, n, c, hb, -⟩ := P
      rw [← e]; exact obj_cell hb 1
    have nbr := P.lt
    have fin : Hid (R = (acc, q.want (mC 125)) → ∀ W e, PAt W pb (q.want (mC 125)) → Frm (fun k => k = pb) wr W → e = Ending.returned (.slice ao no co) → ∃ a k c, e = .returned (.slice a k c) ∧ OwSs W (Nb w W) (.slice a k c) R.1 ∧ PAt W pb R.2 ∧ Frm (fun k => k = pb) w W) := Lib.hid (by
      intro hR W e hP f he
      refine ⟨ao, no, co, he, ?_, by rw [hR]; exact hP, F.trans f⟩
      rw [hR]
      have sz := f.size
      refine ⟨G, rs, fun k hk => ?_, O.frm f fun k hk e => by have e' : k = pb := e; have hg1 := (HG.out k hk).1; have hg2 := (HG.out k hk).2.1; omega, (A.frm f fun k hk e => by have e' : k = pb := e; have := HC.out k hk; omega).mono fun k hk => ?_⟩
      · have hg1 := (HG.out k hk).1; have hg2 := (HG.out k hk).2.1; unfold Nb; omega
      · refine ⟨?_, fun h => (HG.out k h).2.2 hk⟩
        have := HC.out k hk; unfold Nb; omega)
    rcases hbad : q.bad with _ | _
    · have q1 := hq1 _ hbad
      have HMK := pmark_ok P (mC 125)
      have hqbb := Lib.hid (hqb.out hbad)
      have hqk := hqk hbad
      rw [hbad] at hst
      clear hq1
      rcases hmk : q.mark (mC 125) with _ | _
      · rw [hmk] at HMK hst
        have hRR := Lib.hid (hst.out.trans (if_pos (by decide)))
        clear hst hmk fin hbad
        have hlt := selL_lt (setL_le n) q
        have HL := Lib.hid hlt
        have hb1 := hqbb.out.1
        have hb2 := hqbb.out.2.1
        have hb3 := hqbb.out.2.2
        clear hlt
        go_wp2_with (fail)
        refine HMK.mono ?_
        rintro e w1 ⟨rfl, f1⟩
        have P1 := P.no f1
        have O1 := (O.mono (G := fun k => G k ∧ k < wr.heap.size) fun k hk h => ⟨h, hk⟩).no f1
        have A1 := A.frm f1 fun _ _ h => h
        have F1 := F.trans (f1.mono (G := fun k => k = pb) fun _ _ h => h.elim)
        have s1 := f1.size
        clear P O A F f1 HMK
        go_wp2_with (fail)
        refine (HS.out _ _ P1 (by omega) (fun _ => hb2)).mono ?_
        rintro e w2 ⟨r2, rfl, S2, P2, f2⟩
        have O2 := O1.frm f2 fun k hk e => by have e' : k = pb := e; have hg1 := (HG.out k hk.1).1; have hg2 := (HG.out k hk.1).2.1; omega
        have A2 := A1.frm f2 fun k hk e => by have e' : k = pb := e; have := HC.out k hk; omega
        have F2 := F1.trans f2
        have s2 := f2.size
        have sw := F1.size
        have hno := O2.cap.1
        have HN := Lib.hid hno
        have hrl := Lib.hid (A2.rd.len)
        have hno' : no ≤ 2050 := by have := hrl.out; omega
        clear P1 O1 A1 F1 f2 hno
        go_wp2_with (at_builtin; refine wpList_ap _ rfl (.tmp 19) (.tmp 22) 23 23 rfl 51 _ 112 Tryz.underlying23 i_sel rfl (O2.al _) ((RdS.lit1 _ eSel r2 _).src Tryz.underlying23) rfl rfl rfl ?c1 ?c2 ?_)
        case c1 => rw [← HN.out]; unfold maxLen; omega
        case c2 => rw [← HN.out]; omega
        intro a' c' w3 o3 f3
        have P3 := (P2.no (Frm.alloc No _ _)).frm f3 (fun h => by have hg1 := (HG.out _ h.1).1; have hg2 := (HG.out _ h.1).2.1; omega) fun k hk h => by have hg1 := (HG.out _ h.1).1; have hg2 := (HG.out _ h.1).2.1; omega
        have F3 : Frm (fun k => k = pb) w w3 := (F2.al _).then f3 fun k hk h => by have hg1 := (HG.out _ h.1).1; have hg2 := (HG.out _ h.1).2.1; omega
        have A3 : OwAll w3 (fun k => C k ∨ Nb w1 w2 k) (rs ++ [r2]) (acc ++ [(selL (setL n) q).1]) := by
          refine OwAll.frm (X := fun k => G k ∧ k < wr.heap.size) f3 (fun k hk h => ?_) ((OwAll.snoc S2 (fun k h hc => ?_) A2).frm (Frm.alloc No _ _) fun _ _ h => h)
          · rcases hk with hk | hk
            · exact (HG.out k h.1).2.2 hk
            · have := hk.1; omega
          · have := HC.out k hc; have := h.1; omega
        have z3 := f3.size
        have hsz : w2.heap.size < w3.heap.size := by simp at z3; omega
        have o3' := o3.mono (G := fun k => Nw (fun k => G k ∧ k < wr.heap.size) (w2.alloc (.cells (eSel.f r2).toArray 51)) w3 k ∧ k < w3.heap.size) fun k hk h => ⟨h, hk⟩
        clear o3 f3 O2 A2 S2 P2 F2 z3
        go_wp2_with (fail)
        go_roundg k
        case measure => have := hGG.out; omega
        case rel =>
          have hLL := HL.out
          have hm1 := m_le hLL.le
          have hl2 : (selL (setL n) q).2.bad = false → (selL (setL n) q).2.m < k - 1 := fun hb => by have := hLL.2 hb; omega
          refine ⟨k - 1, (selL (setL n) q).2, acc ++ [(selL (setL n) q).1], rs ++ [r2], _, _, _, _, _, rfl, by omega, Lib.hid ?_, hl2, ?_, Lib.hid ?_, P3, o3', A3, ?_, ?_, F3⟩
          · rw [show k - 1 + 1 = k by omega]; exact hRR.out.symm
          · simp; omega
          · intro hb
            have := hLL.2 hb
            simp
            omega
          · intro j hj
            have hsw := s1
            rcases hj.1 with ⟨h, h'⟩ | h
            · have g1 := HG.out j h
              refine ⟨g1.1, hj.2, ?_⟩
              rintro (hc | hc)
              · exact g1.2.2 hc
              · have := hc.1; omega
            · have h1 := h.1
              simp at h1
              refine ⟨by omega, hj.2, ?_⟩
              rintro (hc | hc)
              · have := HC.out j hc; omega
              · have := hc.2; omega
          · rintro j (hc | hc)
            · have := HC.out j hc; omega
            · have := hc.1; have := hc.2; omega
      · rw [hmk] at HMK hst
        have hRR := hst.out.trans (if_neg (by decide))
        have FN := Lib.hid (fin.out hRR)
        clear hst hmk fin hRR hbad
        go_wp2_with (fail)
        refine HMK.mono ?_
        rintro e w1 ⟨rfl, f1⟩
        go_wp2_with (fail)
        refine (want_ok (P.no f1) (mC 125)).mono ?_
        rintro e w2 ⟨rfl, P2, f2⟩
        go_wp2_with (fail)
        go_ret
        exact FN.out _ _ P2 ((f1.mono (G := fun k => k = pb) fun _ _ h => h.elim).trans f2) rfl
    · have q1 := hq1 _ hbad
      rw [hbad] at hst
      have hRR := hst.out.trans (if_neg (by simp))
      have FN := Lib.hid (fin.out hRR)
      clear hst fin hRR hbad hq1
      go_wp2_with (fail)
      refine (want_ok P (mC 125)).mono ?_
      rintro e w2 ⟨rfl, P2, f2⟩
      go_wp2_with (fail)
      go_ret
      exact FN.out _ _ P2 f2 rfl
theorem set_all : ∀ n, SetC n
  | 0 => fun w pb q _ _ _ h => absurd h (Nat.lt_irrefl 0)
  | n + 1 => set_step (set_all n)
theorem set_ok {w : World} {pb : Nat} {p : PS} (h : PAt w pb p) (hm : p.m ≤ 2048) :
    Calls Tryz.prog 36 #[.pointer (some ⟨pb, 0, none⟩)] w fun e w' => ∃ a k c, e = .returned (.slice a k c) ∧ OwSs w' (Nb w w') (.slice a k c) p.set.1 ∧ PAt w' pb p.set.2 ∧ Frm (fun k => k = pb) w w' :=
  set_all _ w pb p h hm (fun _ => Nat.lt_succ_self _) (Nat.succ_pos _)
end Go.Proofs.YthaegncocdddfaaGreatDoor

/- The parser's steps, walked: kindOf, decls. -/
namespace Go.Proofs.YthaegncocdddfaaGreatDoor
set_option linter.unusedVariables false
set_option linter.unusedSimpArgs false
open Go.RowKit Go.Lib Go.Tt
set_option maxRecDepth 100000 in
theorem kindOf_ok (s : ByteArray) (w : World) :
    Calls Tryz.prog 72 #[.string s] w fun e w' => e = .returned (.tuple #[.int .i64 (kindL s).1, .bool (kindL s).2]) ∧ Frm No w w' := by
  have s1 := tl_lit s [73, 110, 116]
  have s2 := tl_lit s [84, 101, 120, 116]
  have s3 := tl_lit s [66, 111, 111, 108]
  unfold kindL
  generalize h1 : eqB s ⟨#[73, 110, 116]⟩ = b1
  generalize h2 : eqB s ⟨#[84, 101, 120, 116]⟩ = b2
  generalize h3 : eqB s ⟨#[66, 111, 111, 108]⟩ = b3
  rw [show eqB s ⟨[73, 110, 116].toArray⟩ = b1 from h1] at s1
  rw [show eqB s ⟨[84, 101, 120, 116].toArray⟩ = b2 from h2] at s2
  rw [show eqB s ⟨[66, 111, 111, 108].toArray⟩ = b3 from h3] at s3
  clear h1 h2 h3
  cases b1
  · cases b2
    · cases b3
      · simp only [Bool.false_eq_true, if_false]
        go_enter Tryz.func72, Tryz.ntmps72
        go_wp2
        go_ret2
        exact ⟨rfl, Frm.refl _ _⟩
      · simp only [Bool.false_eq_true, if_false, if_true]
        go_enter Tryz.func72, Tryz.ntmps72
        go_wp2
        go_ret2
        exact ⟨rfl, Frm.refl _ _⟩
    · simp only [Bool.false_eq_true, if_false, if_true]
      go_enter Tryz.func72, Tryz.ntmps72
      go_wp2
      go_ret2
      exact ⟨rfl, Frm.refl _ _⟩
  · simp only [if_true]
    go_enter Tryz.func72, Tryz.ntmps72
    go_wp2
    go_ret2
    exact ⟨rfl, Frm.refl _ _⟩
set_option maxHeartbeats 8000000 in
set_option maxRecDepth 100000 in
theorem decls_ok {w : World} {pb : Nat} {p : PS} (h : PAt w pb p) (hm : p.m ≤ 2048) :
    Calls Tryz.prog 40 #[.pointer (some ⟨pb, 0, none⟩)] w fun e w' => ∃ a n c, e = .returned (.slice a n c) ∧ Ow w' (fun k => w.heap.size ≤ k) 62 eDc (.slice a n c) p.decls.1 ∧ PAt w' pb p.decls.2 ∧ Frm (fun k => k = pb) w w' := by
  obtain ⟨R, hR⟩ : ∃ R, Hid (R = p.decls) := ⟨_, Lib.hid rfl⟩
  rw [← hR.out]
  have npb := h.lt
  have HM := pmark_ok h (mC 40)
  have hR' : Hid (R = if p.mark (mC 40) then declsL (p.adv.m + 1) p.adv [] else ([], p)) := Lib.hid hR.out
  have hma := m_le (adv_lt p).le
  rcases hmk : p.mark (mC 40) with _ | _
  · rw [hmk] at HM hR'
    have hRR := Lib.hid (hR'.out.trans (if_neg (by decide)))
    clear hmk hR hR'
    go_enter Tryz.func40, Tryz.ntmps40
    go_wp2_with (fail)
    refine HM.mono ?_
    rintro e w1 ⟨rfl, f1⟩
    go_wp2_with (fail)
    go_ret
    exact ⟨_, _, _, rfl, by rw [hRR.out]; exact Ow.nil _ _ _ _ _, by rw [hRR.out]; exact h.no f1, f1.mono (G := fun k => k = pb) fun _ _ h => h.elim⟩
  rw [hmk] at HM hR'
  have hRR := Lib.hid (hR'.out.trans (if_pos (by decide)))
  clear hmk hR hR'
  go_enter Tryz.func40, Tryz.ntmps40
  go_wp2_with (fail)
  refine HM.mono ?_
  rintro e w1 ⟨rfl, f1⟩
  go_wp2_with (fail)
  refine (take_ok (h.no f1)).mono ?_
  rintro e w2 ⟨rfl, P2, f2⟩
  have F2 := (f1.mono (G := fun k => k = pb) fun _ _ h => h.elim).trans f2
  clear h HM f1 f2
  go_wp2_with (fail)
  go_loopg [3, 4] (p.adv.m + 1) (fun g ov mv wr => ∃ (n : Nat) (B : Bool) (q : PS) (acc : List Dc) (ao : Option Addr) (no co : Nat), ov = .slice ao no co ∧ mv = .bool B ∧ g = (if B then n + 1 else 0) ∧ Hid ((if B then declsL (n + 1) q acc else (acc, q.want (mC 41))) = R) ∧ (B = true → q.m < n + 1 ∧ acc.length + q.m ≤ 2048) ∧ PAt wr pb q ∧ Ow wr (fun k => w.heap.size ≤ k) 62 eDc (.slice ao no co) acc ∧ Frm (fun k => k = pb) w wr)
  case atStart => exact ⟨p.adv.m, true, p.adv, [], none, 0, 0, rfl, rfl, rfl, Lib.hid hRR.out.symm, fun _ => ⟨Nat.lt_succ_self _, by simp; omega⟩, P2, Ow.nil _ _ _ _ _, F2⟩
  case round =>
    clear P2 F2 hRR hm hma
    obtain ⟨n, B, q, acc, ao, no, co, rfl, rfl, hg, hA, hb, P, O, F⟩ := hrel
    cases B
    · have hRR := Lib.hid hA.out.symm
      simp only [Bool.false_eq_true, if_false] at hRR
      clear hA hb hg
      go_wp2_with (fail)
      refine (want_ok P (mC 41)).mono ?_
      rintro e w1 ⟨rfl, P1, f1⟩
      go_wp2_with (fail)
      go_ret
      exact ⟨_, _, _, rfl, by rw [hRR.out]; exact frm_pb (F := No) O f1 npb, by rw [hRR.out]; exact P1, F.trans f1⟩
    · simp only [if_true] at hA hg
      have hGG := Lib.hid hg
      have hb1 := (hb rfl).1
      have hb2 := (hb rfl).2
      have hst : Hid (R = if (!(decl1 q).2.bad && !(decl1 q).2.mark (mC 41)) = true then declsL n (decl1 q).2 (acc ++ [(decl1 q).1]) else (acc ++ [(decl1 q).1], (decl1 q).2.want (mC 41))) := Lib.hid (by rw [← hA.out]; rfl)
      have hlt := decl1_lt q
      have HL := Lib.hid hlt
      clear hA hb hlt hg
      obtain ⟨K, hK⟩ : ∃ K, Hid (kindL ((q.want (mC 36)).nameS.want (mC 58)).nameT = K) := ⟨_, Lib.hid rfl⟩
      have hv : Hid (decl1 q = (⟨(q.want (mC 36)).nameT, K.1⟩, ⟨((q.want (mC 36)).nameS.want (mC 58)).nameS.ts, ((q.want (mC 36)).nameS.want (mC 58)).nameS.bad || !K.2⟩)) := Lib.hid (by rw [← hK.out]; rfl)
      have HK := Lib.hid (fun W => kindOf_ok ((q.want (mC 36)).nameS.want (mC 58)).nameT W)
      rw [hK.out] at HK
      obtain ⟨k1, k2⟩ := K
      go_wp2_with (fail)
      refine (want_ok P (mC 36)).mono ?_
      rintro e w1 ⟨rfl, P1, f1⟩
      have O1 := frm_pb (F := No) O f1 npb
      have F1 := F.trans f1
      clear P O F f1
      go_wp2_with (fail)
      refine (pname_ok P1).mono ?_
      rintro e w2 ⟨rfl, P2, f2⟩
      have O2 := frm_pb (F := No) O1 f2 npb
      have F2 := F1.trans f2
      have s2 := F2.size
      have npb2 := P2.lt
      have O2' := O2.mono (G := fun k => w.heap.size ≤ k ∧ k < w2.heap.size) fun k hk h => ⟨h, hk⟩
      clear P1 O1 F1 f2 O2
      have D2 := heap_alloc_new w2 (.cells #[.string (q.want (mC 36)).nameT, .int .i64 0] 62 (0, 0))
      have nd := lt_of_block D2
      go_wp2_with (fail)
      refine (want_ok (P2.no (Frm.alloc No _ _)) (mC 58)).mono ?_
      rintro e w3 ⟨rfl, P3, f3⟩
      have O3 := (O2'.al _).frm f3 fun k hk e => by have e' : k = pb := e; omega
      have F3 := (F2.al _).trans f3
      have D3 := f3.obj D2 (by omega)
      clear P2 O2' F2 f3 D2
      go_wp2_with (fail)
      refine (pname_ok P3).mono ?_
      rintro e w4 ⟨rfl, P4, f4⟩
      have O4 := O3.frm f4 fun k hk e => by have e' : k = pb := e; omega
      have F4 := F3.trans f4
      have D4 := f4.obj D3 (by omega)
      clear P3 O3 F3 f4 D3
      go_wp2_with (fail)
      refine (HK.out _).mono ?_
      rintro e w5 ⟨rfl, f5⟩
      have O5 := O4.no f5
      have F5 := F4.trans (f5.mono (G := fun k => k = pb) fun _ _ h => h.elim)
      have D5 := f5.obj D4 id
      have P5 := P4.no f5
      clear P4 O4 F4 f5 D4 HK
      obtain ⟨a5, n5, c5, hb5, hr5⟩ := P5
      have nb5 := lt_of_block hb5
      have nd5 := lt_of_block D5
      obtain ⟨B, hB⟩ : ∃ b, Hid (((q.want (mC 36)).nameS.want (mC 58)).nameS.bad = b) := ⟨_, Lib.hid rfl⟩
      rw [hB.out] at hb5 hv
      have q1 : w5.cell? ⟨pb, 1, none⟩ = some (.bool B) := obj_cell hb5 1
      have zb := obj_frz hb5
      have d0 : w5.cell? ⟨w2.heap.size, 0, none⟩ = some (.string (q.want (mC 36)).nameT) := obj_cell D5 0
      have d1 : w5.cell? ⟨w2.heap.size, 1, none⟩ = some (.int .i64 0) := obj_cell D5 1
      have zd := obj_frz D5
      have hno := O5.cap.1
      have HN := Lib.hid hno
      have hno' : no ≤ 2048 := by omega
      clear hno
      have PB := Lib.hid (PAt.set hb5 hr5)
      have OB := Lib.hid (fun b v => (O5.st (b := pb) (fun h => by omega) 1 b).st (b := w2.heap.size) (fun h => by omega) 1 v)
      have FB := Lib.hid (fun (b : Bool) (v : Value) => (F5.sc (b := pb) rfl 1 (.bool b)).then (Frm.setCell (F := fun k => k = w2.heap.size) _ ⟨w2.heap.size, 1, none⟩ v rfl) fun k hk e => by have e' : k = w2.heap.size := e; omega)
      have sw5 := F5.size
      clear O5 F5 D5 hb5 hr5 hB hK
      rcases B with _ | _ <;> rcases k2 with _ | _
      · simp only [Bool.false_or, Bool.true_or, Bool.not_true, Bool.not_false] at hv
        rw [hv.out] at hst HL
        simp only at hst HL
        go_wp2_with (at_builtin; refine wpList_ap _ rfl (.tmp 50) (.tmp 52) 22 22 rfl 62 _ 24 Tryz.underlying22 i_dc rfl ((OB.out _ _).al _) ((RdS.litg (g := w5.heap.size) _ eDc ⟨_, _⟩ _ (by simp)).src Tryz.underlying22) rfl rfl rfl ?c1 ?c2 ?_)
        case c1 => rw [← HN.out]; unfold maxLen; omega
        case c2 => rw [← HN.out]; omega
        intro a' c' w6 o6 f6
        have O6 := o6.mono (G := fun k => w.heap.size ≤ k) fun k hk hh => by
          rcases hh with hh | hh
          · exact hh.1
          · have := hh.1; simp at this; omega
        have P6 := (((PB.out _).frm (F := fun k => k = w2.heap.size) (Frm.setCell _ ⟨w2.heap.size, 1, none⟩ (.int .i64 k1) rfl) (fun e => by omega) fun k hk e => by omega).no (Frm.alloc No _ _)).frm f6 (fun e => by omega) fun k hk e => by omega
        have F6 := ((FB.out _ _).al _).then f6 fun k hk e => by omega
        clear o6 f6 OB PB FB q1 zb d0 d1 zd
        have q6 : w6.cell? ⟨pb, 1, none⟩ = some (.bool true) := by
          obtain ⟨a, n, c, hb, -⟩ := P6
          exact obj_cell hb 1
        have nb6 := P6.lt
        have hRR := Lib.hid (hst.out.trans (if_neg (by simp)))
        clear hst
        go_wp2_with (fail)
        go_roundg 0
        case measure => have := hGG.out; omega
        case rel => exact ⟨0, false, _, _, _, _, _, rfl, rfl, rfl, Lib.hid hRR.out.symm, (fun h => by cases h), P6, O6, F6⟩
      · simp only [Bool.false_or, Bool.true_or, Bool.not_true, Bool.not_false] at hv
        rw [hv.out] at hst HL
        simp only at hst HL
        go_wp2_with (at_builtin; refine wpList_ap _ rfl (.tmp 50) (.tmp 52) 22 22 rfl 62 _ 24 Tryz.underlying22 i_dc rfl ((OB.out _ _).al _) ((RdS.litg (g := w5.heap.size) _ eDc ⟨_, _⟩ _ (by simp)).src Tryz.underlying22) rfl rfl rfl ?c1 ?c2 ?_)
        case c1 => rw [← HN.out]; unfold maxLen; omega
        case c2 => rw [← HN.out]; omega
        intro a' c' w6 o6 f6
        have O6 := o6.mono (G := fun k => w.heap.size ≤ k) fun k hk hh => by
          rcases hh with hh | hh
          · exact hh.1
          · have := hh.1; simp at this; omega
        have P6 := (((PB.out _).frm (F := fun k => k = w2.heap.size) (Frm.setCell _ ⟨w2.heap.size, 1, none⟩ (.int .i64 k1) rfl) (fun e => by omega) fun k hk e => by omega).no (Frm.alloc No _ _)).frm f6 (fun e => by omega) fun k hk e => by omega
        have F6 := ((FB.out _ _).al _).then f6 fun k hk e => by omega
        clear o6 f6 OB PB FB q1 zb d0 d1 zd
        have q6 : w6.cell? ⟨pb, 1, none⟩ = some (.bool false) := by
          obtain ⟨a, n, c, hb, -⟩ := P6
          exact obj_cell hb 1
        have nb6 := P6.lt
        have HMK := pmark_ok P6 (mC 41)
        have hlt := HL.out.2 rfl
        rcases hmk : PS.mark ⟨((q.want (mC 36)).nameS.want (mC 58)).nameS.ts, false⟩ (mC 41) with _ | _
        · rw [hmk] at HMK hst
          have hRR := Lib.hid (hst.out.trans (if_pos (by decide)))
          clear hst hmk
          go_wp2_with (fail)
          refine HMK.mono ?_
          rintro e w7 ⟨rfl, f7⟩
          go_wp2_with (fail)
          go_roundg n
          case measure => have := hGG.out; omega
          case rel => exact ⟨n - 1, true, _, _, _, _, _, rfl, rfl, by simp; omega, Lib.hid (by simp only [if_true]; rw [show n - 1 + 1 = n by omega]; exact hRR.out.symm), fun _ => ⟨by omega, by rw [List.length_append]; simp only [List.length_cons, List.length_nil]; omega⟩, P6.no f7, O6.no f7, F6.trans (f7.mono (G := fun k => k = pb) fun _ _ h => h.elim)⟩
        · rw [hmk] at HMK hst
          have hRR := Lib.hid (hst.out.trans (if_neg (by decide)))
          clear hst hmk
          go_wp2_with (fail)
          refine HMK.mono ?_
          rintro e w7 ⟨rfl, f7⟩
          go_wp2_with (fail)
          go_roundg 0
          case measure => have := hGG.out; omega
          case rel => exact ⟨0, false, _, _, _, _, _, rfl, rfl, rfl, Lib.hid hRR.out.symm, (fun h => by cases h), P6.no f7, O6.no f7, F6.trans (f7.mono (G := fun k => k = pb) fun _ _ h => h.elim)⟩
      · simp only [Bool.false_or, Bool.true_or, Bool.not_true, Bool.not_false] at hv
        rw [hv.out] at hst HL
        simp only at hst HL
        go_wp2_with (at_builtin; refine wpList_ap _ rfl (.tmp 50) (.tmp 52) 22 22 rfl 62 _ 24 Tryz.underlying22 i_dc rfl ((OB.out _ _).al _) ((RdS.litg (g := w5.heap.size) _ eDc ⟨_, _⟩ _ (by simp)).src Tryz.underlying22) rfl rfl rfl ?c1 ?c2 ?_)
        case c1 => rw [← HN.out]; unfold maxLen; omega
        case c2 => rw [← HN.out]; omega
        intro a' c' w6 o6 f6
        have O6 := o6.mono (G := fun k => w.heap.size ≤ k) fun k hk hh => by
          rcases hh with hh | hh
          · exact hh.1
          · have := hh.1; simp at this; omega
        have P6 := (((PB.out _).frm (F := fun k => k = w2.heap.size) (Frm.setCell _ ⟨w2.heap.size, 1, none⟩ (.int .i64 k1) rfl) (fun e => by omega) fun k hk e => by omega).no (Frm.alloc No _ _)).frm f6 (fun e => by omega) fun k hk e => by omega
        have F6 := ((FB.out _ _).al _).then f6 fun k hk e => by omega
        clear o6 f6 OB PB FB q1 zb d0 d1 zd
        have q6 : w6.cell? ⟨pb, 1, none⟩ = some (.bool true) := by
          obtain ⟨a, n, c, hb, -⟩ := P6
          exact obj_cell hb 1
        have nb6 := P6.lt
        have hRR := Lib.hid (hst.out.trans (if_neg (by simp)))
        clear hst
        go_wp2_with (fail)
        go_roundg 0
        case measure => have := hGG.out; omega
        case rel => exact ⟨0, false, _, _, _, _, _, rfl, rfl, rfl, Lib.hid hRR.out.symm, (fun h => by cases h), P6, O6, F6⟩
      · simp only [Bool.false_or, Bool.true_or, Bool.not_true, Bool.not_false] at hv
        rw [hv.out] at hst HL
        simp only at hst HL
        go_wp2_with (at_builtin; refine wpList_ap _ rfl (.tmp 50) (.tmp 52) 22 22 rfl 62 _ 24 Tryz.underlying22 i_dc rfl ((OB.out _ _).al _) ((RdS.litg (g := w5.heap.size) _ eDc ⟨_, _⟩ _ (by simp)).src Tryz.underlying22) rfl rfl rfl ?c1 ?c2 ?_)
        case c1 => rw [← HN.out]; unfold maxLen; omega
        case c2 => rw [← HN.out]; omega
        intro a' c' w6 o6 f6
        have O6 := o6.mono (G := fun k => w.heap.size ≤ k) fun k hk hh => by
          rcases hh with hh | hh
          · exact hh.1
          · have := hh.1; simp at this; omega
        have P6 := (((PB.out _).frm (F := fun k => k = w2.heap.size) (Frm.setCell _ ⟨w2.heap.size, 1, none⟩ (.int .i64 k1) rfl) (fun e => by omega) fun k hk e => by omega).no (Frm.alloc No _ _)).frm f6 (fun e => by omega) fun k hk e => by omega
        have F6 := ((FB.out _ _).al _).then f6 fun k hk e => by omega
        clear o6 f6 OB PB FB q1 zb d0 d1 zd
        have q6 : w6.cell? ⟨pb, 1, none⟩ = some (.bool true) := by
          obtain ⟨a, n, c, hb, -⟩ := P6
          exact obj_cell hb 1
        have nb6 := P6.lt
        have hRR := Lib.hid (hst.out.trans (if_neg (by simp)))
        clear hst
        go_wp2_with (fail)
        go_roundg 0
        case measure => have := hGG.out; omega
        case rel => exact ⟨0, false, _, _, _, _, _, rfl, rfl, rfl, Lib.hid hRR.out.symm, (fun h => by cases h), P6, O6, F6⟩
end Go.Proofs.YthaegncocdddfaaGreatDoor

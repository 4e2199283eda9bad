/- Merged: Sam1 Nam. -/
import Derived.Test.YthaegncocdddfaaGreatDoorK03
import Derived.Test.YthaegncocdddfaaGreatDoorK08
import Derived.Test.YthaegncocdddfaaGreatDoorK25
/- Selections compared: slices.EqualFunc, sameSel. -/
namespace Go.Proofs.YthaegncocdddfaaGreatDoor
set_option linter.unusedVariables false
set_option linter.unusedSimpArgs false
set_option linter.unusedVariables false
set_option linter.unusedSimpArgs false
open Go.RowKit Go.Lib Go.Tt
def EqF (n : Nat) : Prop := ∀ {w : World} {F G : Nat → Prop} {v u : Value} {ss ts : List Sl}, RdSs w F v ss → RdSs w G u ts → nSs ss ≤ n →
  Calls Tryz.prog 60 #[v, u, .func (.func 61) #[] #[]] w fun e w' => ∃ q, e = .returned (.bool q) ∧ (q = true ↔ ss = ts) ∧ Frm No w w'
def EqS (n : Nat) : Prop := ∀ {w : World} {F G : Nat → Prop} {r q : SelC} {s t : Sl}, RdSel w F r s → RdSel w G q t → nS s ≤ n →
  Calls Tryz.prog 61 #[.agg r.l.toArray, .agg q.l.toArray] w fun e w' => ∃ b, e = .returned (.bool b) ∧ (b = true ↔ s = t) ∧ Frm No w w'
set_option maxHeartbeats 8000000 in
set_option maxRecDepth 100000 in
theorem eqF_ok {n : Nat} (hsel : EqS n) : EqF n := by
  intro w F G v u ss ts hx hy hn
  obtain ⟨rs, hS, hA⟩ := hx
  obtain ⟨qs, hT, hB⟩ := hy
  obtain ⟨a1, c1, rfl⟩ := hS.1.sh
  obtain ⟨a2, c2, rfl⟩ := hT.1.sh
  have la := hA.len
  have lb := hB.len
  have hl1 : ss.length ≤ 9223372036854775807 := by
    have h1 := hS.1.facts
    unfold maxLen at h1
    omega
  have hl2 : ts.length ≤ 9223372036854775807 := by
    have h1 := hT.1.facts
    unfold maxLen at h1
    omega
  have HS := Lib.hid hS
  have HT := Lib.hid hT
  have HA := Lib.hid hA
  have HB := Lib.hid hB
  have LA := Lib.hid la
  have LB := Lib.hid lb
  rw [la, lb]
  obtain ⟨R, hR⟩ : ∃ R : Ending → World → Prop, R = fun e w' => ∃ q, e = .returned (.bool q) ∧ (q = true ↔ ss = ts) ∧ Frm No w w' := ⟨_, rfl⟩
  rw [← hR]
  have HQ := Lib.hid hR
  clear hR hS hT hA hB la lb
  by_cases hl : ss.length = ts.length
  · have hlb : ((ss.length : Int) != (ts.length : Int)) = false := by simp [hl]
    have HLE := Lib.hid hl
    clear hl
    go_enter Tryz.func60, Tryz.ntmps60
    go_wp2_with (fail)
    go_loopg [17] (ss.length + 1) (fun g iv wr => ∃ i : Nat, iv = .int .i64 i ∧ g = ss.length - i + 1 ∧ i ≤ ss.length ∧ ss.take i = ts.take i ∧ Frm No w wr)
    case atStart => exact ⟨0, rfl, rfl, Nat.zero_le _, rfl, Frm.refl _ _⟩
    case round =>
      obtain ⟨i, rfl, hg, hi, ht, f⟩ := hrel
      have HG := Lib.hid hg
      have HTK := Lib.hid ht
      clear hg ht
      by_cases hlt : i < ss.length
      · have hlt2 : i < ts.length := by have := HLE.out; omega
        have hlt' : i < rs.length := by have := LA.out; omega
        have hlt2' : i < qs.length := by have := LB.out; omega
        obtain ⟨b1, o1, hao1, hb1, k1⟩ := HS.out.1.at hlt'
        obtain ⟨b2, o2, hao2, hb2, k2⟩ := HT.out.1.at hlt2'
        have hRd1 := (HA.out.at i hlt hlt').frm f fun _ _ _ h => h
        have hRd2 := (HB.out.at i hlt2 hlt2').frm f fun _ _ _ h => h
        have hns := Nat.le_trans (nS_le_at i hlt) hn
        obtain ⟨x, hx⟩ : ∃ x, x = ss[i] := ⟨_, rfl⟩
        obtain ⟨y, hy⟩ : ∃ y, y = ts[i] := ⟨_, rfl⟩
        obtain ⟨r, hr⟩ : ∃ r, r = rs[i] := ⟨_, rfl⟩
        obtain ⟨q, hq⟩ : ∃ q, q = qs[i] := ⟨_, rfl⟩
        rw [← hr] at k1 hRd1
        rw [← hq] at k2 hRd2
        rw [← hx] at hRd1 hns
        rw [← hy] at hRd2
        subst hao1 hao2
        obtain ⟨r0, r1, r2, ⟨rap, ran, rac⟩, ⟨rip, rin, ric⟩, ⟨rsp, rsn, rsc⟩⟩ := r
        obtain ⟨q0, q1, q2, ⟨qap, qan, qac⟩, ⟨qip, qin, qic⟩, ⟨qsp, qsn, qsc⟩⟩ := q
        have m0 : wr.cell? ⟨b1, o1 + i * 6, none⟩ = some (.bool r0) := (f.cell (p := ⟨b1, o1 + i * 6, none⟩) hb1 id).trans (k1 0 _ rfl)
        have m1 : wr.cell? ⟨b1, o1 + i * 6 + 1, none⟩ = some (.string r1) := (f.cell (p := ⟨b1, o1 + i * 6 + 1, none⟩) hb1 id).trans (k1 1 _ rfl)
        have m2 : wr.cell? ⟨b1, o1 + i * 6 + 2, none⟩ = some (.string r2) := (f.cell (p := ⟨b1, o1 + i * 6 + 2, none⟩) hb1 id).trans (k1 2 _ rfl)
        have m3 : wr.cell? ⟨b1, o1 + i * 6 + 3, none⟩ = some (.slice rap ran rac) := (f.cell (p := ⟨b1, o1 + i * 6 + 3, none⟩) hb1 id).trans (k1 3 _ rfl)
        have m4 : wr.cell? ⟨b1, o1 + i * 6 + 4, none⟩ = some (.slice rip rin ric) := (f.cell (p := ⟨b1, o1 + i * 6 + 4, none⟩) hb1 id).trans (k1 4 _ rfl)
        have m5 : wr.cell? ⟨b1, o1 + i * 6 + 5, none⟩ = some (.slice rsp rsn rsc) := (f.cell (p := ⟨b1, o1 + i * 6 + 5, none⟩) hb1 id).trans (k1 5 _ rfl)
        have n0 : wr.cell? ⟨b2, o2 + i * 6, none⟩ = some (.bool q0) := (f.cell (p := ⟨b2, o2 + i * 6, none⟩) hb2 id).trans (k2 0 _ rfl)
        have n1 : wr.cell? ⟨b2, o2 + i * 6 + 1, none⟩ = some (.string q1) := (f.cell (p := ⟨b2, o2 + i * 6 + 1, none⟩) hb2 id).trans (k2 1 _ rfl)
        have n2 : wr.cell? ⟨b2, o2 + i * 6 + 2, none⟩ = some (.string q2) := (f.cell (p := ⟨b2, o2 + i * 6 + 2, none⟩) hb2 id).trans (k2 2 _ rfl)
        have n3 : wr.cell? ⟨b2, o2 + i * 6 + 3, none⟩ = some (.slice qap qan qac) := (f.cell (p := ⟨b2, o2 + i * 6 + 3, none⟩) hb2 id).trans (k2 3 _ rfl)
        have n4 : wr.cell? ⟨b2, o2 + i * 6 + 4, none⟩ = some (.slice qip qin qic) := (f.cell (p := ⟨b2, o2 + i * 6 + 4, none⟩) hb2 id).trans (k2 4 _ rfl)
        have n5 : wr.cell? ⟨b2, o2 + i * 6 + 5, none⟩ = some (.slice qsp qsn qsc) := (f.cell (p := ⟨b2, o2 + i * 6 + 5, none⟩) hb2 id).trans (k2 5 _ rfl)
        have hb1w : b1 < wr.heap.size := Nat.lt_of_lt_of_le hb1 f.size
        have hb2w : b2 < wr.heap.size := Nat.lt_of_lt_of_le hb2 f.size
        have HXI := Lib.hid hx
        have HYI := Lib.hid hy
        have HLT := Lib.hid hlt
        have HLT2 := Lib.hid hlt2
        have HR1 := Lib.hid hRd1
        have HR2 := Lib.hid hRd2
        clear k1 k2 hx hy hr hq hRd1 hRd2 hlt' hlt2'
        go_wp2_with (fail)
        refine (hsel (HR1.out.frm (((Frm.refl No wr).al _).al _) fun _ _ _ h => h) (HR2.out.frm (((Frm.refl No wr).al _).al _) fun _ _ _ h => h) hns).mono ?_
        rintro e w2 ⟨bq, rfl, hbq, f2⟩
        have F2 : Frm No w w2 := ((f.al _).al _).trans f2
        have HBQ := Lib.hid hbq
        clear f2 hbq m0 m1 m2 m3 m4 m5 n0 n1 n2 n3 n4 n5
        cases bq
        · go_wp2_with (fail)
          rw [HQ.out]
          have hne2 : ss ≠ ts := ne_at HLT.out HLT2.out HXI HYI fun e => by first | exact HBQ.out e | (have := HBQ.out.2 e; cases this)
          exact ⟨false, rfl, ⟨fun h => (by cases h), fun h => absurd h hne2⟩, F2⟩
        · go_wp2_with (fail)
          go_roundg (ss.length - (i + 1) + 1)
          case measure => have := HG.out; have := HLT.out; omega
          case rel => exact ⟨i + 1, by go_num, rfl, HLT.out, take_step HLT.out HLT2.out HTK.out (by rw [← HXI.out, ← HYI.out]; first | exact HBQ.out.1 rfl | exact HBQ.out.1 trivial), F2⟩
      · obtain rfl : i = ss.length := by omega
        have e : ss = ts := by
          have := HTK.out
          rw [List.take_length, List.take_of_length_le (by have := HLE.out; omega)] at this
          exact this
        have HEQ := Lib.hid e
        clear e hlt hi
        go_wp2_with (fail)
        rw [HQ.out]
        exact ⟨true, rfl, ⟨fun _ => HEQ.out, fun _ => rfl⟩, f⟩
  · have hlb : ((ss.length : Int) != (ts.length : Int)) = true := by simp; omega
    have hne2 : Hid (ss ≠ ts) := Lib.hid fun e => hl (by rw [e])
    clear hl
    go_enter Tryz.func60, Tryz.ntmps60
    go_wp2_with (fail)
    rw [HQ.out]
    exact ⟨false, rfl, ⟨fun h => (by cases h), fun h => absurd h hne2.out⟩, Frm.refl _ _⟩
set_option maxHeartbeats 8000000 in
set_option maxRecDepth 100000 in
theorem eqS_ok {n : Nat} (hset : EqF n) : EqS (n + 1) := by
  intro w F G r q s t hx hy hn
  obtain ⟨p0, p1, p2, xa, xi, ss⟩ := s
  obtain ⟨t0, t1, t2, bs, js, us⟩ := t
  obtain ⟨r0, r1, r2, ⟨rap, ran, rac⟩, ⟨rip, rin, ric⟩, ⟨rsp, rsn, rsc⟩⟩ := r
  obtain ⟨q0, q1, q2, ⟨qap, qan, qac⟩, ⟨qip, qin, qic⟩, ⟨qsp, qsn, qsc⟩⟩ := q
  unfold RdSel at hx hy
  obtain ⟨⟨h0, h1, h2⟩, hA, hI, rl, hS, hAll⟩ := hx
  obtain ⟨⟨g0, g1, g2⟩, gA, gI, gl, gS, gAll⟩ := hy
  simp only at h0 h1 h2 hA hI hS g0 g1 g2 gA gI gS
  subst h0 h1 h2 g0 g1 g2
  have hSet : RdSs w F (.slice rsp rsn rsc) ss := ⟨rl, hS, hAll⟩
  have gSet : RdSs w G (.slice qsp qsn qsc) us := ⟨gl, gS, gAll⟩
  have hns : nSs ss ≤ n := by unfold nS at hn; omega
  unfold SelC.l
  simp only
  have HSA := Lib.hid hA.1
  have HSB := Lib.hid gA.1
  have HIA := Lib.hid hI.1
  have HIB := Lib.hid gI.1
  have HSS := Lib.hid hSet
  have HST := Lib.hid gSet
  clear hS hAll gS gAll hn hA gA hI gI hSet gSet
  obtain ⟨R, hR⟩ : ∃ R : Ending → World → Prop, R = fun e w' => ∃ b, e = .returned (.bool b) ∧ (b = true ↔ Sl.mk r0 r1 r2 xa xi ss = Sl.mk q0 q1 q2 bs js us) ∧ Frm No w w' := ⟨_, rfl⟩
  rw [← hR]
  have HQ := Lib.hid hR
  clear hR
  have no : ∀ w', ¬ (Sl.mk r0 r1 r2 xa xi ss = Sl.mk q0 q1 q2 bs js us) → Frm No w w' → R (.returned (.bool false)) w' := fun w' hne f => by
    rw [HQ.out]
    exact ⟨false, rfl, ⟨fun h => (by cases h), fun h => absurd h hne⟩, f⟩
  have NO := Lib.hid no
  clear no
  have F2 : Frm No w ((w.alloc (.cells #[.bool r0, .string r1, .string r2, .slice rap ran rac, .slice rip rin ric, .slice rsp rsn rsc] 51)).alloc (.cells #[.bool q0, .string q1, .string q2, .slice qap qan qac, .slice qip qin qic, .slice qsp qsn qsc] 51)) := ((Frm.refl No w).al _).al _
  by_cases e0 : r0 = q0
  rotate_left
  · have b0 : (r0 == q0) = false := by simp [e0]
    have HNE := Lib.hid (show ¬ (Sl.mk r0 r1 r2 xa xi ss = Sl.mk q0 q1 q2 bs js us) from fun h => e0 (by injection h))
    clear e0
    go_enter Tryz.func61, Tryz.ntmps61
    go_wp2_with (fail)
    exact NO.out _ HNE.out F2
  subst e0
  by_cases e1 : r1 = q1
  rotate_left
  · have b1 : (r1.toList == q1.toList) = false := by rw [beq_eq_false_iff_ne, ne_eq, tlp_eq]; exact e1
    have HNE := Lib.hid (show ¬ (Sl.mk r0 r1 r2 xa xi ss = Sl.mk r0 q1 q2 bs js us) from fun h => e1 (by injection h))
    clear e1
    go_enter Tryz.func61, Tryz.ntmps61
    go_wp2_with (fail)
    exact NO.out _ HNE.out F2
  subst e1
  by_cases e2 : r2 = q2
  rotate_left
  · have b2 : (r2.toList == q2.toList) = false := by rw [beq_eq_false_iff_ne, ne_eq, tlp_eq]; exact e2
    have HNE := Lib.hid (show ¬ (Sl.mk r0 r1 r2 xa xi ss = Sl.mk r0 r1 q2 bs js us) from fun h => e2 (by injection h))
    clear e2
    go_enter Tryz.func61, Tryz.ntmps61
    go_wp2_with (fail)
    exact NO.out _ HNE.out F2
  subst e2
  have B1 : ((w.alloc (.cells #[.bool r0, .string r1, .string r2, .slice rap ran rac, .slice rip rin ric, .slice rsp rsn rsc] 51)).alloc (.cells #[.bool r0, .string r1, .string r2, .slice qap qan qac, .slice qip qin qic, .slice qsp qsn qsc] 51)).heap[w.heap.size]? = some (.cells #[.bool r0, .string r1, .string r2, .slice rap ran rac, .slice rip rin ric, .slice rsp rsn rsc] 51 (0, 0)) := al_old (heap_alloc_new w _)
  have B2 : ((w.alloc (.cells #[.bool r0, .string r1, .string r2, .slice rap ran rac, .slice rip rin ric, .slice rsp rsn rsc] 51)).alloc (.cells #[.bool r0, .string r1, .string r2, .slice qap qan qac, .slice qip qin qic, .slice qsp qsn qsc] 51)).heap[w.heap.size + 1]? = some (.cells #[.bool r0, .string r1, .string r2, .slice qap qan qac, .slice qip qin qic, .slice qsp qsn qsc] 51 (0, 0)) := by
    have := heap_alloc_new (w.alloc (.cells #[.bool r0, .string r1, .string r2, .slice rap ran rac, .slice rip rin ric, .slice rsp rsn rsc] 51)) (.cells #[.bool r0, .string r1, .string r2, .slice qap qan qac, .slice qip qin qic, .slice qsp qsn qsc] 51)
    rwa [World.size_alloc] at this
  have HB1 := Lib.hid B1
  have HB2 := Lib.hid B2
  have HF2 := Lib.hid F2
  clear B1 B2 F2
  go_enter Tryz.func61, Tryz.ntmps61
  go_wp2_with (fail)
  refine (equal_Ar (HSA.out.no HF2.out) (HSB.out.no HF2.out)).mono ?_
  rintro e w3 ⟨rfl, f3⟩
  have F3 := HF2.out.trans f3
  have C1 := f3.obj HB1.out id
  have C2 := f3.obj HB2.out id
  clear f3 HB1 HB2 HF2
  by_cases e3 : xa = bs
  rotate_left
  · have HNE := Lib.hid (show ¬ (Sl.mk r0 r1 r2 xa xi ss = Sl.mk r0 r1 r2 bs js us) from fun h => e3 (by injection h))
    have d3 : decide (xa = bs) = false := decide_eq_false e3
    rw [d3]
    clear e3 d3 C1 C2
    go_wp2_with (fail)
    exact NO.out _ HNE.out F3
  have d3 : decide (xa = bs) = true := decide_eq_true e3
  rw [d3]
  subst e3
  have m4 : w3.cell? ⟨w.heap.size, 4, none⟩ = some (.slice rip rin ric) := obj_cell C1 4
  have n4 : w3.cell? ⟨w.heap.size + 1, 4, none⟩ = some (.slice qip qin qic) := obj_cell C2 4
  have HC1 := Lib.hid C1
  have HC2 := Lib.hid C2
  have h1s := lt_of_block C1
  have h2s := lt_of_block C2
  clear d3 C1 C2
  go_wp2_with (fail)
  refine (equal_Fi (HIA.out.no F3) (HIB.out.no F3)).mono ?_
  rintro e w4 ⟨rfl, f4⟩
  have F4 := F3.trans f4
  have C1 := f4.obj HC1.out id
  have C2 := f4.obj HC2.out id
  clear f4 HC1 HC2 F3 m4 n4 h1s h2s
  by_cases e4 : xi = js
  rotate_left
  · have HNE := Lib.hid (show ¬ (Sl.mk r0 r1 r2 xa xi ss = Sl.mk r0 r1 r2 xa js us) from fun h => e4 (by injection h))
    have d3 : decide (xi = js) = false := decide_eq_false e4
    rw [d3]
    clear e4 d3 C1 C2
    go_wp2_with (fail)
    exact NO.out _ HNE.out F4
  have d3 : decide (xi = js) = true := decide_eq_true e4
  rw [d3]
  subst e4
  have m5 : w4.cell? ⟨w.heap.size, 5, none⟩ = some (.slice rsp rsn rsc) := obj_cell C1 5
  have n5 : w4.cell? ⟨w.heap.size + 1, 5, none⟩ = some (.slice qsp qsn qsc) := obj_cell C2 5
  have h1s := lt_of_block C1
  have h2s := lt_of_block C2
  clear d3 C1 C2
  go_wp2_with (fail)
  refine (hset (HSS.out.frm F4 fun _ _ _ h => h) (HST.out.frm F4 fun _ _ _ h => h) hns).mono ?_
  rintro e w5 ⟨bq, rfl, hbq, f5⟩
  have HBQ := Lib.hid hbq
  have F5 := F4.trans f5
  clear hbq f5
  go_wp2_with (fail)
  rw [HQ.out]
  refine ⟨bq, rfl, ?_, F5⟩
  rw [HBQ.out]
  exact ⟨fun h => by rw [h], fun h => by injection h⟩
theorem eqF_all : ∀ n, EqF n
  | 0 => eqF_ok fun {_ _ _ _ _ s _} _ _ hn => by have := nS_pos s; omega
  | n + 1 => eqF_ok (eqS_ok (eqF_all n))
end Go.Proofs.YthaegncocdddfaaGreatDoor

/- Names' letters: op.First, op.Digit, op.Name. -/
namespace Go.Proofs.YthaegncocdddfaaGreatDoor
set_option linter.unusedVariables false
set_option linter.unusedSimpArgs false
open Go.RowKit Go.Lib Go.Tt
theorem dec_f {p : Prop} [Decidable p] (h : ¬ p) : false = decide p := (decide_eq_false h).symm
theorem dec_t {p : Prop} [Decidable p] (h : p) : true = decide p := (decide_eq_true h).symm
theorem dec_d {p q : Prop} [Decidable p] [Decidable q] (h : p ↔ q) : decide p = decide q := decide_eq_decide.2 h
def firstB (x : Int) : Bool := decide (97 ≤ x ∧ x ≤ 122 ∨ 65 ≤ x ∧ x ≤ 90 ∨ x = 95)
def digB (x : Int) : Bool := decide (48 ≤ x ∧ x ≤ 57)
theorem first_ok (x : Int) (w : World) : Calls Tryz.prog 84 #[.int .u8 x] w fun e w' => e = .returned (.bool (firstB x)) ∧ w = w' := by
  obtain ⟨B, hB⟩ : ∃ B : Bool, Hid (B = firstB x) := ⟨_, Lib.hid rfl⟩
  rw [← hB.out]
  go_enter Tryz.func84, Tryz.ntmps84
  go_wp2
  all_goals go_ret
  all_goals refine ⟨congrArg (fun b => Ending.returned (Value.bool b)) ?_, rfl⟩
  all_goals rw [hB.out]
  all_goals unfold firstB
  all_goals first | exact dec_f (by omega) | exact dec_t (by omega) | exact dec_d (by omega) | (simp; omega) | (rw [Bool.eq_iff_iff]; simp; omega)
theorem digit_ok (x : Int) (w : World) : Calls Tryz.prog 86 #[.int .u8 x] w fun e w' => e = .returned (.bool (digB x)) ∧ w = w' := by
  obtain ⟨B, hB⟩ : ∃ B : Bool, Hid (B = digB x) := ⟨_, Lib.hid rfl⟩
  rw [← hB.out]
  go_enter Tryz.func86, Tryz.ntmps86
  go_wp2
  all_goals go_ret
  all_goals refine ⟨congrArg (fun b => Ending.returned (Value.bool b)) ?_, rfl⟩
  all_goals rw [hB.out]
  all_goals unfold digB
  all_goals first | exact dec_f (by omega) | exact dec_t (by omega) | exact dec_d (by omega) | (simp; omega) | (rw [Bool.eq_iff_iff]; simp; omega)
/-- Is a text a name? -/
def nameMay (s : ByteArray) : Bool := decide ((0 < s.size ∧ s.size ≤ 32 ∧ firstB (s.data.toList.getD 0 0).toNat = true) ∧ ∀ i, i < s.data.toList.length → (firstB (s.data.toList.getD i 0).toNat = true ∨ digB (s.data.toList.getD i 0).toNat = true))
theorem bget (s : ByteArray) {i : Nat} (h : i < s.size) : s.data.toList.getD i 0 = s[i] := by
  have h' : i < s.data.toList.length := by simpa using h
  simp [List.getD, List.getElem?_eq_getElem h']
  rfl
set_option maxRecDepth 100000 in
theorem name_ok (s : ByteArray) (w : World) (hs : s.size ≤ 9223372036854775807) : Calls Tryz.prog 101 #[.string s] w fun e w' => e = .returned (.bool (nameMay s)) ∧ w = w' := by
  obtain ⟨B, hB⟩ : ∃ B : Bool, Hid (B = nameMay s) := ⟨_, Lib.hid rfl⟩
  rw [← hB.out]
  by_cases h0 : s.size = 0
  · have e : s = ⟨#[]⟩ := by
      have : s.data = #[] := Array.eq_empty_of_size_eq_zero h0
      exact ByteArray.ext this
    have hv : B = false := by rw [hB.out]; exact decide_eq_false fun h => by have := h.1.1; omega
    rw [hv]
    clear hB hv h0 hs
    subst e
    go_enter Tryz.func101, Tryz.ntmps101
    go_wp2_with (fail)
    go_ret
    exact ⟨rfl, rfl⟩
  have hpos : 0 < s.size := by omega
  have hne : (s.toList.isEmpty) = false := by
    rw [ByteArray.toList_eq]
    cases h : s.data.toList with
    | nil => have : s.data.toList.length = 0 := by rw [h]; rfl
             have e : s.data.toList.length = s.size := Array.length_toList
             omega
    | cons a b => rfl
  clear h0
  go_enter Tryz.func101, Tryz.ntmps101
  by_cases h32 : s.size ≤ 32
  case neg =>
    have hv : B = false := by rw [hB.out]; exact decide_eq_false fun h => h32 h.1.2.1
    have h33 : 32 < s.size := by omega
    go_wp2_with (fail)
    go_ret
    exact ⟨rfl, rfl⟩
  rcases hf : firstB (s[0].toNat) with _ | _
  · have hv : Hid (B = false) := Lib.hid (by rw [hB.out]; exact decide_eq_false fun h => by have := h.1.2.2; rw [bget s hpos, hf] at this; cases this)
    have h33 : ¬ 32 < s.size := by omega
    go_wp2_with (go_at_call 84; refine (first_ok _ _).mono ?_; rintro e w' ⟨rfl, rfl⟩)
    go_ret
    exact ⟨congrArg (fun b => Ending.returned (Value.bool b)) hv.out.symm, rfl⟩
  · have h33 : ¬ 32 < s.size := by omega
    have HF := Lib.hid hf
    go_wp2_with (go_at_call 84; refine (first_ok _ _).mono ?_; rintro e w' ⟨rfl, rfl⟩)
    clear hf
    go_loopg [19] (s.size + 1) (fun g iv wr => ∃ i : Nat, iv = .int .i64 i ∧ wr = w ∧ i ≤ s.size ∧ g = s.size - i + 1 ∧ ∀ j, j < i → (firstB (s.data.toList.getD j 0).toNat = true ∨ digB (s.data.toList.getD j 0).toNat = true))
    case atStart => exact ⟨0, rfl, rfl, Nat.zero_le _, by omega, fun j hj => by omega⟩
    case round =>
      obtain ⟨i, rfl, rfl, hi, hg, hp⟩ := hrel
      have hG := Lib.hid hg
      have hP := Lib.hid hp
      clear hg hp
      by_cases hlt : i < s.size
      · have hl : i < s.data.toList.length := by simpa using hlt
        have hgd := bget s hlt
        have HGD := Lib.hid hgd
        clear hgd
        obtain ⟨P, hPd⟩ : ∃ P : Int → Bool, Hid (P = firstB) := ⟨_, Lib.hid rfl⟩
        obtain ⟨D, hDd⟩ : ∃ D : Int → Bool, Hid (D = digB) := ⟨_, Lib.hid rfl⟩
        have c1 := fun x W => first_ok x W
        have c2 := fun x W => digit_ok x W
        rw [← hPd.out] at c1
        rw [← hDd.out] at c2
        rcases hf : P (s[i].toNat) with _ | _
        · rcases hd : D (s[i].toNat) with _ | _
          · have hv : Hid (B = false) := Lib.hid (by
              rw [hB.out]
              refine decide_eq_false fun h => ?_
              have := h.2 i hl
              rw [HGD.out, ← hPd.out, ← hDd.out, hf, hd] at this
              rcases this with h | h <;> cases h)
            go_wp2_with (first | (go_at_call 84; refine (c1 _ _).mono ?_; rintro e w' ⟨rfl, rfl⟩) | (go_at_call 86; refine (c2 _ _).mono ?_; rintro e w' ⟨rfl, rfl⟩))
            go_ret
            exact ⟨congrArg (fun b => Ending.returned (Value.bool b)) hv.out.symm, rfl⟩
          · go_wp2_with (first | (go_at_call 84; refine (c1 _ _).mono ?_; rintro e w' ⟨rfl, rfl⟩) | (go_at_call 86; refine (c2 _ _).mono ?_; rintro e w' ⟨rfl, rfl⟩))
            go_roundg (s.size - (i + 1) + 1)
            case measure => have := hG.out; omega
            case rel =>
              refine ⟨i + 1, by go_num, rfl, by omega, rfl, fun j hj => ?_⟩
              rcases Nat.lt_or_ge j i with h | h
              · exact hP.out j h
              · obtain rfl : j = i := by omega
                rw [HGD.out, ← hDd.out]
                exact .inr hd
        · go_wp2_with (first | (go_at_call 84; refine (c1 _ _).mono ?_; rintro e w' ⟨rfl, rfl⟩) | (go_at_call 86; refine (c2 _ _).mono ?_; rintro e w' ⟨rfl, rfl⟩))
          go_roundg (s.size - (i + 1) + 1)
          case measure => have := hG.out; omega
          case rel =>
            refine ⟨i + 1, by go_num, rfl, by omega, rfl, fun j hj => ?_⟩
            rcases Nat.lt_or_ge j i with h | h
            · exact hP.out j h
            · obtain rfl : j = i := by omega
              rw [HGD.out, ← hPd.out]
              exact .inl hf
      · have hii : ¬ ((i : Int) < s.size) := by omega
        have hv : Hid (B = true) := Lib.hid (by
          rw [hB.out]
          refine decide_eq_true ⟨⟨hpos, h32, by rw [bget s hpos]; exact HF.out⟩, fun j hj => hP.out j ?_⟩
          have : s.data.toList.length = s.size := Array.length_toList
          omega)
        go_wp2_with (fail)
        go_ret
        exact ⟨congrArg (fun b => Ending.returned (Value.bool b)) hv.out.symm, rfl⟩
theorem firstB_fi (c : UInt8) : firstB c.toNat = fiB c := by
  unfold firstB fiB
  rw [Bool.eq_iff_iff]
  simp only [decide_eq_true_eq, Bool.or_eq_true, Bool.and_eq_true, Nat.ble_eq, beq_iff_eq]
  omega
theorem digB_dg (c : UInt8) : digB c.toNat = dgB c := by
  unfold digB dgB
  rw [Bool.eq_iff_iff]
  simp only [decide_eq_true_eq, Bool.and_eq_true, Nat.ble_eq]
  omega
/-- A row of letters of names that begins as a name does is one if it is short. -/
theorem nameMay_row {c : UInt8} {r : List UInt8} (hc : fiB c = true) (hr : ∀ x ∈ c :: r, wdB x = true) : nameMay ⟨(c :: r).toArray⟩ = Nat.ble (c :: r).length 32 := by
  unfold nameMay
  rw [Bool.eq_iff_iff, decide_eq_true_eq, Nat.ble_eq]
  constructor
  · intro h
    have : (c :: r).toArray.size ≤ 32 := h.1.2.1
    simpa using this
  · intro h
    refine ⟨⟨by show 0 < (c :: r).toArray.size; simp, by show (c :: r).toArray.size ≤ 32; simpa using h, ?_⟩, fun i hi => ?_⟩
    · show firstB (((c :: r).getD 0 0).toNat : Int) = true
      rw [firstB_fi]; exact hc
    · have hi' : i < (c :: r).length := by simpa using hi
      have hw := hr _ (List.getElem_mem hi')
      have e : (⟨(c :: r).toArray⟩ : ByteArray).data.toList.getD i 0 = (c :: r)[i] := by
        show (c :: r).getD i 0 = _
        simp [List.getD, List.getElem?_eq_getElem hi']
      rw [e, firstB_fi, digB_dg]
      unfold wdB at hw
      simpa using hw
end Go.Proofs.YthaegncocdddfaaGreatDoor

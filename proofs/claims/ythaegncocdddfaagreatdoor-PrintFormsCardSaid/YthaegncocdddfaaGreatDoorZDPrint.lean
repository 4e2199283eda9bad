/- Merged: PF1 PF2 LForm15 PF3 LRows15d RowDPrint. -/
import Derived.Deep.DeepCutAuto
import Derived.Deep.CutBlock
import Derived.Test.YthaegncocdddfaaGreatDoorK15
import Derived.Test.YthaegncocdddfaaGreatDoorK20
import Derived.Test.YthaegncocdddfaaGreatDoorK39
/- PrintForms: the document that is read, row by row in memory. -/
namespace Go.Proofs.YthaegncocdddfaaGreatDoor
set_option linter.unusedVariables false
set_option linter.unusedSimpArgs false
set_option linter.unusedVariables false
set_option linter.unusedSimpArgs false
open Go.RowKit Go.Lib Go.Tt
/-- Block b, of type t, begins with these cells. -/
def Rb (w : World) (b : Nat) (t : TypeId) (l : List Value) : Prop := ∃ cur : Array Value, w.heap[b]? = some (.cells cur t (0, 0)) ∧ cur.toList.take l.length = l
theorem Rb.cell {w : World} {b : Nat} {t : TypeId} {l : List Value} (h : Rb w b t l) {i : Nat} {u : Value} (hi : l[i]? = some u) : w.cell? ⟨b, i, none⟩ = some u := by
  obtain ⟨cur, hb, hl⟩ := h
  obtain ⟨hlt, -⟩ := List.getElem?_eq_some_iff.1 hi
  rw [obj_cell hb, ← Array.getElem?_toList]
  rw [← hl, List.getElem?_take_of_lt hlt] at hi
  exact hi
theorem Rb.frz {w : World} {b : Nat} {t : TypeId} {l : List Value} (h : Rb w b t l) (i : Nat) : w.frozen? ⟨b, i, none⟩ = false := by
  obtain ⟨cur, hb, -⟩ := h
  exact obj_frz hb i
theorem Rb.lt {w : World} {b : Nat} {t : TypeId} {l : List Value} (h : Rb w b t l) : b < w.heap.size := by
  obtain ⟨cur, hb, -⟩ := h
  exact lt_of_block hb
theorem Rb.frm {w w' : World} {F : Nat → Prop} {b : Nat} {t : TypeId} {l : List Value} (h : Rb w b t l) (f : Frm F w w') (hF : ¬ F b) : Rb w' b t l := by
  obtain ⟨cur, hb, hl⟩ := h
  exact ⟨cur, f.obj hb hF, hl⟩
theorem Rb.set {w : World} {b : Nat} {t : TypeId} {l : List Value} (h : Rb w b t l) (i : Nat) (u : Value) : Rb (w.setCell ⟨b, i, none⟩ u) b t (l.set i u) := by
  obtain ⟨cur, hb, hl⟩ := h
  refine ⟨_, obj_setCell hb u, ?_⟩
  rw [Array.toList_setIfInBounds, List.length_set, List.take_set, hl]
theorem Rb.rdB {α : Type} {w : World} {b c : Nat} {t : TypeId} {E : Enc α} {xs : List α} (h : Rb w b t (E.flat xs)) (hc : xs.length ≤ c) (hm : c ≤ maxLen) {n : Nat} (hn : n = xs.length) (h0 : 0 < n) : RdB w (fun _ => True) E (.slice (some ⟨b, 0, none⟩) n c) xs := by
  subst hn
  refine ⟨⟨_, _, rfl, hc, hm, fun h => (by cases h), fun _ => ⟨_, _, rfl, fun m u hm => ?_⟩⟩, fun _ _ => trivial⟩
  rw [Nat.zero_add]
  exact h.cell hm
theorem Rb.ow {α : Type} {w : World} {F : Nat → Prop} {e : TypeId} {E : Enc α} {p : Option Addr} {n c : Nat} {l : List α} (h : Ow w F e E (.slice p n c) l) (h0 : 0 < l.length) : ∃ b, p = some ⟨b, 0, none⟩ ∧ n = l.length ∧ n ≤ c ∧ c ≤ maxLen ∧ F b ∧ Rb w b e (E.flat l) := by
  have hn : n = l.length := h.cap.1
  obtain ⟨g, row, rfl, hg, hF, -, hnc, hcm, -, htk⟩ := h.cases (by omega)
  exact ⟨g, rfl, hn, hnc, hcm, hF, row, hg, by rw [E.flat_len]; exact htk⟩
/-- A slice of nothing. -/
def Nl (s : Sh) : Prop := s.n = 0 ∧ s.c ≤ maxLen ∧ (s.p = none → s.c = 0)
theorem Nl.of {α : Type} {w : World} {F : Nat → Prop} {e : TypeId} {E : Enc α} {s : Sh} (h : Ow w F e E (.slice s.p s.n s.c) ([] : List α)) : Nl s := by
  have := h.rd.facts
  exact ⟨this.1, this.2.2.1, fun hp => (this.2.2.2 hp).2⟩
theorem Nl.rdB {α : Type} {s : Sh} (h : Nl s) (w : World) (E : Enc α) : RdB w (fun _ => True) E (.slice s.p s.n s.c) ([] : List α) := by
  obtain ⟨h1, h2, h3⟩ := h
  rw [h1]
  exact ⟨⟨s.p, s.c, rfl, Nat.zero_le _, h2, fun hp => ⟨rfl, h3 hp⟩, fun h => by simp at h⟩, fun _ _ => trivial⟩
/-- A selection of nothing but a name. -/
theorem Nl.sel {sp : Bool} {al nm : ByteArray} {a i s : Sh} (ha : Nl a) (hi : Nl i) (hs : Nl s) (w : World) : RdSel w (fun _ => True) ⟨sp, al, nm, a, i, s⟩ (.mk sp al nm [] [] []) := by
  unfold RdSel
  exact ⟨⟨rfl, rfl, rfl⟩, ha.rdB w _, hi.rdB w _, [], hs.rdB w _, rdAll_no w⟩
def pfT : ByteArray := ⟨#[113, 117, 101, 114, 121, 40, 36, 118, 58, 73, 110, 116, 41, 123, 120, 58, 84, 40, 105, 100, 58, 36, 118, 32, 98, 58, 49, 32, 99, 58, 34, 113, 34, 32, 100, 58, 116, 114, 117, 101, 41, 64, 115, 107, 105, 112, 40, 105, 102, 58, 36, 118, 41, 123, 46, 46, 46, 70, 125, 125, 32, 102, 114, 97, 103, 109, 101, 110, 116, 32, 70, 32, 111, 110, 32, 84, 123, 97, 125]⟩
def pfD (dc : Dc) (al nm : ByteArray) (args : List Ar) (ifs : List Fi) (sels : List Sl) (fn fo : ByteArray) (fs : List Sl) : Dm := ⟨false, [dc], [.mk false al nm args ifs sels], [⟨fn, fo, fs⟩]⟩
def bx : ByteArray := ⟨#[120]⟩
def bT : ByteArray := ⟨#[84]⟩
def bv : ByteArray := ⟨#[118]⟩
def bF : ByteArray := ⟨#[70]⟩
def ba_ : ByteArray := ⟨#[97]⟩
def pfA : List Ar := [⟨⟨#[105, 100]⟩, ⟨3, 0, bv⟩⟩, ⟨⟨#[98]⟩, ⟨0, 1, noTx⟩⟩, ⟨⟨#[99]⟩, ⟨1, 0, ⟨#[113]⟩⟩⟩, ⟨⟨#[100]⟩, ⟨2, 1, noTx⟩⟩]
def pfI : List Fi := [⟨true, ⟨3, 0, bv⟩⟩]
def pf0 : Dm := pfD ⟨bv, 0⟩ bx bT pfA pfI [.mk true noTx bF [] [] []] bF bT [.mk false noTx ba_ [] [] []]
theorem pf_parse : parseL pfT.data.toList = (pf0, 0) := by kernel_rfl
/-- Where its rows lie. -/
structure PfB where
  d : Nat
  s : Nat
  a : Nat
  i : Nat
  s2 : Nat
  f : Nat
  s3 : Nat
structure PfC where
  d : Nat
  s : Nat
  a : Nat
  i : Nat
  s2 : Nat
  f : Nat
  s3 : Nat
structure PfB.ne (b : PfB) : Prop where
  ds : b.d ≠ b.s
  da : b.d ≠ b.a
  di : b.d ≠ b.i
  d2 : b.d ≠ b.s2
  df : b.d ≠ b.f
  d3 : b.d ≠ b.s3
  sa : b.s ≠ b.a
  si : b.s ≠ b.i
  s2' : b.s ≠ b.s2
  sf : b.s ≠ b.f
  s3' : b.s ≠ b.s3
  ai : b.a ≠ b.i
  a2 : b.a ≠ b.s2
  af : b.a ≠ b.f
  a3 : b.a ≠ b.s3
  i2 : b.i ≠ b.s2
  iff : b.i ≠ b.f
  i3 : b.i ≠ b.s3
  f2 : b.s2 ≠ b.f
  s23 : b.s2 ≠ b.s3
  f3 : b.f ≠ b.s3
structure PfC.ok (c : PfC) : Prop where
  d : 1 ≤ c.d ∧ c.d ≤ maxLen
  s : 1 ≤ c.s ∧ c.s ≤ maxLen
  a : 4 ≤ c.a ∧ c.a ≤ maxLen
  i : 1 ≤ c.i ∧ c.i ≤ maxLen
  s2 : 1 ≤ c.s2 ∧ c.s2 ≤ maxLen
  f : 1 ≤ c.f ∧ c.f ≤ maxLen
  s3 : 1 ≤ c.s3 ∧ c.s3 ≤ maxLen
def slAt (b n c : Nat) : Value := .slice (some ⟨b, 0, none⟩) n c
/-- The rows' cells. -/
structure PfR (w : World) (b : PfB) (ld ls la li l2 lf l3 : List Value) : Prop where
  d : Rb w b.d 62 ld
  s : Rb w b.s 51 ls
  a : Rb w b.a 57 la
  i : Rb w b.i 60 li
  s2 : Rb w b.s2 51 l2
  f : Rb w b.f 53 lf
  s3 : Rb w b.s3 51 l3
def pfV (b : PfB) (c : PfC) : DocC := ⟨false, ⟨some ⟨b.d, 0, none⟩, 1, c.d⟩, ⟨some ⟨b.s, 0, none⟩, 1, c.s⟩, ⟨some ⟨b.f, 0, none⟩, 1, c.f⟩⟩
def pfS (b : PfB) (c : PfC) (al nm : ByteArray) : SelC := ⟨false, al, nm, ⟨some ⟨b.a, 0, none⟩, 4, c.a⟩, ⟨some ⟨b.i, 0, none⟩, 1, c.i⟩, ⟨some ⟨b.s2, 0, none⟩, 1, c.s2⟩⟩
def pfF (b : PfB) (c : PfC) (fn fo : ByteArray) : FgC := ⟨fn, fo, ⟨some ⟨b.s3, 0, none⟩, 1, c.s3⟩⟩
theorem pf_shape {w : World} {F : Nat → Prop} {v : DocC} (h : OwDoc w F v pf0) : ∃ (b : PfB) (c : PfC) (e1 e2 e3 e4 e5 e6 : Sh), v = pfV b c ∧ b.ne ∧ c.ok ∧ (Nl e1 ∧ Nl e2 ∧ Nl e3 ∧ Nl e4 ∧ Nl e5 ∧ Nl e6) ∧ (F b.d ∧ F b.s ∧ F b.a ∧ F b.i ∧ F b.s2 ∧ F b.f ∧ F b.s3) ∧
    PfR w b (eDc.flat [⟨bv, 0⟩]) (eSel.flat [pfS b c bx bT]) (eAr.flat pfA) (eFi.flat pfI) (eSel.flat [⟨true, noTx, bF, e1, e2, e3⟩]) (eFg.flat [pfF b c bF bT]) (eSel.flat [⟨false, noTx, ba_, e4, e5, e6⟩]) := by
  obtain ⟨h0, D, S, G, C, rs, hD, hS, hG, hC, oD, oS, oF, oFs⟩ := h
  obtain ⟨vm, ⟨dp, dn, dc⟩, ⟨sp1, sn, sc⟩, ⟨fp, fn, fc⟩⟩ := v
  simp only [pf0, pfD] at h0 oD oS oF oFs
  subst h0
  obtain ⟨bd, rfl, rfl, kd1, kd2, md, rd⟩ := Rb.ow oD (by simp)
  obtain ⟨G1, ss, hG1, oS1, oAll⟩ := oS
  unfold OwAll at oAll
  obtain ⟨r, rt, G2, rfl, hG2, oSel, oNil⟩ := oAll
  unfold OwAll at oNil
  subst oNil
  obtain ⟨bs, rfl, rfl, ks1, ks2, ms, rsS⟩ := Rb.ow oS1 (by simp)
  obtain ⟨r0, r1, r2, ⟨ap, an, ac⟩, ⟨ip, in_, ic⟩, ⟨tp, tn, tc⟩⟩ := r
  unfold OwSel at oSel
  obtain ⟨⟨e0, e1, e2⟩, A, I, S', G', hA, hI, hS', hG', oA, oI, qs, oS2, oAll2⟩ := oSel
  simp only at e0 e1 e2 oA oI oS2
  subst e0 e1 e2
  obtain ⟨ba, rfl, rfl, ka1, ka2, ma, ra⟩ := Rb.ow oA (by simp [pfA])
  obtain ⟨bi, rfl, rfl, ki1, ki2, mi, ri⟩ := Rb.ow oI (by simp [pfI])
  unfold OwAll at oAll2
  obtain ⟨q, qt, G3, rfl, hG3, oSel2, oNil2⟩ := oAll2
  unfold OwAll at oNil2
  subst oNil2
  obtain ⟨b2, rfl, rfl, k21, k22, m2, r2'⟩ := Rb.ow oS2 (by simp)
  obtain ⟨q0, q1, q2, qa, qi, qs2⟩ := q
  unfold OwSel at oSel2
  obtain ⟨⟨f0, f1, f2⟩, A3, I3, S3, G4, -, -, -, -, oA3, oI3, us, oS3, oAll3⟩ := oSel2
  simp only at f0 f1 f2 oA3 oI3 oS3
  subst f0 f1 f2
  unfold OwAll at oAll3
  subst oAll3
  obtain ⟨fr, frt, Gf, rfl, hGf, hfn, oSs, oFn⟩ := oFs
  obtain rfl : frt = [] := oFn
  obtain ⟨bf, rfl, rfl, kf1, kf2, mf, rf⟩ := Rb.ow oF (by simp)
  obtain ⟨frn, fro, ⟨xp, xn, xc⟩⟩ := fr
  simp only at hfn oSs
  obtain ⟨g1, g2⟩ := hfn
  subst g1 g2
  obtain ⟨G5, ys, hG5, oS5, oAll5⟩ := oSs
  unfold OwAll at oAll5
  obtain ⟨y, yt, G6, rfl, hG6, oSel5, oNil5⟩ := oAll5
  unfold OwAll at oNil5
  subst oNil5
  obtain ⟨b3, rfl, rfl, k31, k32, m3, r3⟩ := Rb.ow oS5 (by simp)
  obtain ⟨y0, y1, y2, ya, yi, ys2⟩ := y
  unfold OwSel at oSel5
  obtain ⟨⟨j0, j1, j2⟩, A5, I5, S5, G7, -, -, -, -, oA5, oI5, zs, oS7, oAll7⟩ := oSel5
  simp only at j0 j1 j2 oA5 oI5 oS7
  subst j0 j1 j2
  unfold OwAll at oAll7
  subst oAll7
  -- where each block lies
  have S_s := hG1 _ ms
  have SA := hG2 _ (hA _ ma).1
  have SI := hG2 _ (hI _ mi).1
  have S2 := hG2 _ (hS' _ (hG' _ m2))
  have C3 := hC _ (hGf _ (hG5 _ m3))
  have c3 := hGf _ (hG5 _ m3)
  refine ⟨⟨bd, bs, ba, bi, b2, bf, b3⟩, ⟨dc, sc, ac, ic, tc, fc, xc⟩, qa, qi, qs2, ya, yi, ys2, rfl, ?_, ⟨⟨kd1, kd2⟩, ⟨ks1, ks2⟩, ⟨ka1, ka2⟩, ⟨ki1, ki2⟩, ⟨k21, k22⟩, ⟨kf1, kf2⟩, ⟨k31, k32⟩⟩, ⟨Nl.of oA3, Nl.of oI3, Nl.of oS3, Nl.of oA5, Nl.of oI5, Nl.of oS7⟩, ⟨(hD _ md).1, (hS _ S_s).1, (hS _ SA.1).1, (hS _ SI.1).1, (hS _ S2.1).1, (hG _ mf).1, C3⟩, ⟨rd, rsS, ra, ri, r2', rf, r3⟩⟩
  have dd := hD _ md
  have ss := hS _ S_s
  have sa := hS _ SA.1
  have si := hS _ SI.1
  have s2 := hS _ S2.1
  have gf := hG _ mf
  have aa := hA _ ma
  have ii := hI _ mi
  have u2 := hG' _ m2
  exact {
    ds := fun e => dd.2.1 (by rw [show bd = bs from e]; exact S_s)
    da := fun e => dd.2.1 (by rw [show bd = ba from e]; exact SA.1)
    di := fun e => dd.2.1 (by rw [show bd = bi from e]; exact SI.1)
    d2 := fun e => dd.2.1 (by rw [show bd = b2 from e]; exact S2.1)
    df := fun e => dd.2.2.1 (by rw [show bd = bf from e]; exact mf)
    d3 := fun e => dd.2.2.2 (by rw [show bd = b3 from e]; exact c3)
    sa := fun e => SA.2 (by rw [← show bs = ba from e]; exact ms)
    si := fun e => SI.2 (by rw [← show bs = bi from e]; exact ms)
    s2' := fun e => S2.2 (by rw [← show bs = b2 from e]; exact ms)
    sf := fun e => ss.2.1 (by rw [show bs = bf from e]; exact mf)
    s3' := fun e => ss.2.2 (by rw [show bs = b3 from e]; exact c3)
    ai := fun e => aa.2.1 (by rw [show ba = bi from e]; exact mi)
    a2 := fun e => aa.2.2 (by rw [show ba = b2 from e]; exact u2)
    af := fun e => sa.2.1 (by rw [show ba = bf from e]; exact mf)
    a3 := fun e => sa.2.2 (by rw [show ba = b3 from e]; exact c3)
    i2 := fun e => ii.2 (by rw [show bi = b2 from e]; exact u2)
    iff := fun e => si.2.1 (by rw [show bi = bf from e]; exact mf)
    i3 := fun e => si.2.2 (by rw [show bi = b3 from e]; exact c3)
    f2 := fun e => s2.2.1 (by rw [show b2 = bf from e]; exact mf)
    s23 := fun e => s2.2.2 (by rw [show b2 = b3 from e]; exact c3)
    f3 := fun e => gf.2 (by rw [show bf = b3 from e]; exact c3) }
end Go.Proofs.YthaegncocdddfaaGreatDoor

/- PrintForms: the documents of which there is no text. -/
namespace Go.Proofs.YthaegncocdddfaaGreatDoor
set_option linter.unusedVariables false
set_option linter.unusedSimpArgs false
open Go.RowKit Go.Lib Go.Tt
mutual
def eqSl : Sl → Sl → Bool
  | .mk a b c d e f, .mk a' b' c' d' e' f' => (a == a') && eqB b b' && eqB c c' && decide (d = d') && decide (e = e') && eqSs f f'
def eqSs : List Sl → List Sl → Bool
  | [], [] => true
  | s :: ss, t :: ts => eqSl s t && eqSs ss ts
  | _, _ => false
end
mutual
theorem eqSl_refl : ∀ (s : Sl), eqSl s s = true
  | .mk a b c d e f => by
    unfold eqSl
    simp [eqB_iff.2, eqSs_refl f]
theorem eqSs_refl : ∀ (ss : List Sl), eqSs ss ss = true
  | [] => by unfold eqSs; rfl
  | s :: ss => by
    unfold eqSs
    simp [eqSl_refl s, eqSs_refl ss]
end
def eqFs : List Fg → List Fg → Bool
  | [], [] => true
  | f :: fs, g :: gs => eqB f.name g.name && eqB f.on g.on && eqSs f.sels g.sels && eqFs fs gs
  | _, _ => false
theorem eqFs_refl : ∀ (fs : List Fg), eqFs fs fs = true
  | [] => rfl
  | f :: fs => by
    unfold eqFs
    simp [eqB_iff.2, eqSs_refl, eqFs_refl fs]
def eqDm (a b : Dm) : Bool := (a.mutn == b.mutn) && decide (a.decls = b.decls) && eqSs a.sels b.sels && eqFs a.frags b.frags
theorem eqDm_refl (d : Dm) : eqDm d d = true := by
  unfold eqDm
  simp [eqSs_refl, eqFs_refl]
def iB (n : Int) : Bool := decide (-9223372036854775808 ≤ n) && decide (n ≤ 9223372036854775807)
theorem iB_i {n : Int} (h : iB n = true) : I64 n := by
  unfold iB at h
  simp only [Bool.and_eq_true, decide_eq_true_eq] at h
  exact h
mutual
def slB : Sl → Bool
  | .mk _ _ _ args ifs sels => (args.all fun a => iB a.val.int) && (ifs.all fun i => iB i.val.int) && ssB sels
def ssB : List Sl → Bool
  | [] => true
  | s :: ss => slB s && ssB ss
end
mutual
theorem slB_i : ∀ {s : Sl}, slB s = true → SlI s
  | .mk _ _ _ args ifs sels, h => by
    unfold slB at h
    simp only [Bool.and_eq_true, List.all_eq_true] at h
    unfold SlI
    exact ⟨fun a ha => iB_i (h.1.1 a ha), fun i hi => iB_i (h.1.2 i hi), ssB_i h.2⟩
theorem ssB_i : ∀ {ss : List Sl}, ssB ss = true → SsI ss
  | [], _ => by unfold SsI; trivial
  | s :: ss, h => by
    unfold ssB at h
    simp only [Bool.and_eq_true] at h
    unfold SsI
    exact ⟨slB_i h.1, ssB_i h.2⟩
end
/-- A document of which there is no text. -/
def noTB (d : Dm) : Bool := ssB d.sels && (d.frags.all fun f => ssB f.sels) && Nat.ble (prDoc d).length 100000 && !(limD d && ((parseL (prDoc d)).2 == 0) && eqDm (parseL (prDoc d)).1 d)
structure NoT (d : Dm) : Prop where
  i : DmI d
  len : (prDoc d).length ≤ 140737488355328
  no : ¬ (limD d = true ∧ parseL (prDoc d) = (d, 0))
theorem noT {d : Dm} (h : noTB d = true) : NoT d := by
  unfold noTB at h
  simp only [Bool.and_eq_true, List.all_eq_true] at h
  obtain ⟨⟨⟨h1, h2⟩, h3⟩, h4⟩ := h
  refine ⟨⟨ssB_i h1, fun f hf => ssB_i (h2 f hf)⟩, Nat.le_trans (Nat.le_of_ble_eq_true h3) (by decide), fun hk => ?_⟩
  rw [hk.1, hk.2] at h4
  simp [eqDm_refl] at h4
theorem noT_is {d : Dm} (h : NoT d) {s : ByteArray} {e : Int} (hp : PrintIs d s e) : s = noTx ∧ e = 1500 := by
  rcases hp with ⟨hk, -, -⟩ | ⟨-, h1, h2⟩
  · exact absurd hk h.no
  · exact ⟨h1, h2⟩
def pfA' (a0 a1 a2 a3 : Ar) : List Ar := [a0, a1, a2, a3]
def pa0 : Ar := ⟨⟨#[105, 100]⟩, ⟨3, 0, bv⟩⟩
def pa1 : Ar := ⟨⟨#[98]⟩, ⟨0, 1, noTx⟩⟩
def pa2 : Ar := ⟨⟨#[99]⟩, ⟨1, 0, ⟨#[113]⟩⟩⟩
def pa3 : Ar := ⟨⟨#[100]⟩, ⟨2, 1, noTx⟩⟩
def ps2 : Sl := .mk true noTx bF [] [] []
def ps3 : Sl := .mk false noTx ba_ [] [] []
def zerosB (n : Nat) : ByteArray := ⟨(List.replicate n 0).toArray⟩
/-- The j-th change. -/
def pfN (j : Nat) (e : Nat) : Dm :=
  match j with
  | 0 => ⟨false, [⟨bv, 0⟩], [], [⟨bF, bT, [ps3]⟩]⟩
  | 1 => pfD ⟨bv, 0⟩ bx noTx pfA pfI [ps2] bF bT [ps3]
  | 2 => pfD ⟨bv, 0⟩ ⟨#[49]⟩ bT pfA pfI [ps2] bF bT [ps3]
  | 3 => pfD ⟨bv, 0⟩ bx bT (pfA' ⟨⟨#[97, 32, 98]⟩, ⟨3, 0, bv⟩⟩ pa1 pa2 pa3) pfI [ps2] bF bT [ps3]
  | 4 => pfD ⟨bv, 0⟩ bx bT (pfA' ⟨⟨#[105, 100]⟩, ⟨3, 0, noTx⟩⟩ pa1 pa2 pa3) pfI [ps2] bF bT [ps3]
  | 5 => pfD ⟨bv, 0⟩ bx bT (pfA' pa0 ⟨⟨#[98]⟩, ⟨0, 1000000000000000, noTx⟩⟩ pa2 pa3) pfI [ps2] bF bT [ps3]
  | 6 => pfD ⟨bv, 0⟩ bx bT (pfA' pa0 ⟨⟨#[98]⟩, ⟨0, 1, ⟨#[120]⟩⟩⟩ pa2 pa3) pfI [ps2] bF bT [ps3]
  | 7 => pfD ⟨bv, 0⟩ bx bT (pfA' pa0 pa1 ⟨⟨#[99]⟩, ⟨1, 0, zerosB (256 + e)⟩⟩ pa3) pfI [ps2] bF bT [ps3]
  | 8 => pfD ⟨bv, 0⟩ bx bT (pfA' pa0 pa1 pa2 ⟨⟨#[100]⟩, ⟨2, 1 + e, noTx⟩⟩) pfI [ps2] bF bT [ps3]
  | 9 => pfD ⟨bv, 0⟩ bx bT (pfA' pa0 pa1 pa2 ⟨⟨#[100]⟩, ⟨3 + e, 1, noTx⟩⟩) pfI [ps2] bF bT [ps3]
  | 10 => pfD ⟨bv, 0⟩ bx bT pfA [⟨true, ⟨-e, 0, bv⟩⟩] [ps2] bF bT [ps3]
  | 11 => pfD ⟨bv, 0⟩ bx bT pfA pfI [.mk true ⟨#[113]⟩ bF [] [] []] bF bT [ps3]
  | 12 => pfD ⟨bv, 0⟩ bx bT pfA pfI [.mk true noTx bF [⟨ba_, ⟨0, 0, noTx⟩⟩] [] []] bF bT [ps3]
  | 13 => pfD ⟨bv, 0⟩ bx bT pfA pfI [.mk true noTx bF [] [] [.mk false noTx ba_ [] [] []]] bF bT [ps3]
  | 14 => pfD ⟨bv, 0⟩ bx bT pfA pfI [ps2] noTx bT [ps3]
  | 15 => pfD ⟨bv, 0⟩ bx bT pfA pfI [ps2] bF ⟨#[49]⟩ [ps3]
  | 16 => pfD ⟨bv, 0⟩ bx bT pfA pfI [ps2] bF bT []
  | 17 => pfD ⟨bv, 2 + e⟩ bx bT pfA pfI [ps2] bF bT [ps3]
  | _ => pfD ⟨noTx, 0⟩ bx bT pfA pfI [ps2] bF bT [ps3]
def pfDep (j : Nat) : Bool := j == 7 || j == 8 || j == 9 || j == 10 || j == 17
theorem pf_one : ((List.range 19).all fun j => pfDep j || noTB (pfN j 1)) = true := by kernel_rfl
theorem pf_7 : ((List.range 64).all fun e => noTB (pfN 7 (e + 1))) = true := by kernel_rfl
theorem pf_8 : ((List.range 64).all fun e => noTB (pfN 8 (e + 1))) = true := by kernel_rfl
theorem pf_9 : ((List.range 64).all fun e => noTB (pfN 9 (e + 1))) = true := by kernel_rfl
theorem pf_10 : ((List.range 64).all fun e => noTB (pfN 10 (e + 1))) = true := by kernel_rfl
theorem pf_17 : ((List.range 64).all fun e => noTB (pfN 17 (e + 1))) = true := by kernel_rfl
theorem pf_dep {j : Nat} (h : ((List.range 64).all fun e => noTB (pfN j (e + 1))) = true) {e : Nat} (he : e < 64) : NoT (pfN j (e + 1)) := noT (List.all_eq_true.1 h e (List.mem_range.2 he))
theorem pf_at {j : Nat} (hj : j < 19) (hd : pfDep j = false) : NoT (pfN j 1) := by
  have := List.all_eq_true.1 pf_one j (List.mem_range.2 hj)
  rw [hd, Bool.false_or] at this
  exact noT this
end Go.Proofs.YthaegncocdddfaaGreatDoor

/- The law DocForms, walked. -/
namespace Go.Proofs.YthaegncocdddfaaGreatDoor
set_option linter.unusedVariables false
set_option linter.unusedSimpArgs false
open Go.RowKit Go.Lib Go.Tt
def badL : List ByteArray := [⟨#[]⟩, ⟨#[123, 125]⟩, ⟨#[123, 97]⟩, ⟨#[97]⟩, ⟨#[123, 97, 125, 125]⟩, ⟨#[123, 97, 58, 125]⟩, ⟨#[123, 97, 40, 41, 125]⟩, ⟨#[123, 97, 40, 98, 41, 125]⟩, ⟨#[123, 97, 40, 98, 58, 41, 125]⟩, ⟨#[123, 97, 40, 98, 58, 99, 41, 125]⟩, ⟨#[123, 97, 32, 64, 115, 107, 105, 112, 125]⟩, ⟨#[123, 97, 32, 64, 102, 111, 111, 40, 105, 102, 58, 116, 114, 117, 101, 41, 125]⟩, ⟨#[123, 97, 32, 64, 115, 107, 105, 112, 40, 111, 102, 58, 116, 114, 117, 101, 41, 125]⟩, ⟨#[123, 46, 46, 46, 125]⟩, ⟨#[113, 117, 101, 114, 121]⟩, ⟨#[113, 117, 101, 114, 121, 40, 41]⟩, ⟨#[113, 117, 101, 114, 121, 40, 36, 97, 41, 123, 97, 125]⟩, ⟨#[113, 117, 101, 114, 121, 40, 36, 97, 58, 70, 111, 111, 41, 123, 97, 125]⟩, ⟨#[113, 117, 101, 114, 121, 40, 41, 123, 97, 125]⟩, ⟨#[102, 114, 97, 103, 109, 101, 110, 116, 32, 70, 32, 111, 110, 32, 84, 123, 97, 125]⟩, ⟨#[123, 97, 125, 32, 102, 114, 97, 103, 109, 101, 110, 116, 32, 70, 32, 84, 123, 97, 125]⟩, ⟨#[123, 97, 125, 32, 102, 114, 97, 103, 109, 101, 110, 116, 32, 70, 32, 111, 110, 32, 84, 123, 125]⟩, ⟨#[123, 97, 125, 32, 123, 98, 125]⟩, ⟨#[115, 117, 98, 115, 99, 114, 105, 112, 116, 105, 111, 110, 123, 97, 125]⟩, ⟨#[109, 117, 116, 97, 116, 105, 111, 110, 32, 109, 32, 110, 123, 97, 125]⟩, ⟨#[123, 97, 40, 98, 58, 34, 120, 41, 125]⟩, ⟨#[123, 97, 37, 125]⟩]
def badW (k : Nat) : Int := if k = 25 then 1301 else if k = 26 then 1300 else 1500
def bad1 (k : Nat) : Int := if k = 25 then 1301 else 1500
def badGo : List ByteArray → Nat → Bool
  | [], _ => true
  | s :: ss, k => ((parseL s.data.toList).2 == badW k) && Nat.ble s.size 100 && badGo ss (k + 1)
theorem badGo_at : ∀ (ss : List ByteArray) (k : Nat), badGo ss k = true → ∀ (i : Nat) (h : i < ss.length), (parseL ss[i].data.toList).2 = badW (k + i) ∧ ss[i].size ≤ 100
  | s :: ss, k, h, 0, _ => by
    unfold badGo at h
    simp only [Bool.and_eq_true] at h
    exact ⟨by simpa using h.1.1, Nat.le_of_ble_eq_true h.1.2⟩
  | s :: ss, k, h, i + 1, hi => by
    unfold badGo at h
    simp only [Bool.and_eq_true] at h
    have := badGo_at ss (k + 1) h.2 i (by simpa using hi)
    rw [show k + (i + 1) = k + 1 + i from by omega]
    exact this
theorem bad_all : badGo badL 0 = true := by kernel_rfl
theorem wmod (n : Int) (m : Nat) (hm : 0 < m) (hm2 : m ≤ 1000) : ∃ k : Nat, k < m ∧ wrap64 ((IntKind.u64.wrap n).tmod m) = k := by
  have h0 : 0 ≤ IntKind.u64.wrap n := by rw [IntKind.wrap_u64]; omega
  rw [Int.tmod_eq_emod_of_nonneg h0]
  have h1 := Int.emod_nonneg (IntKind.u64.wrap n) (b := (m : Int)) (by omega)
  have h2 := Int.emod_lt_of_pos (IntKind.u64.wrap n) (b := (m : Int)) (by omega)
  refine ⟨((IntKind.u64.wrap n) % (m : Int)).toNat, by omega, ?_⟩
  rw [Int.toNat_of_nonneg h1]
  unfold wrap64
  omega
set_option maxHeartbeats 8000000 in
set_option maxRecDepth 100000 in
theorem forms_ok (n : Int) (w : World) (ht : Tab w) : Calls Tryz.prog 5 #[.int .i64 n] w fun e w' => e = .returned (.bool true) ∧ Frm No w w' := by
  obtain ⟨R, hR⟩ : ∃ R : Ending → World → Prop, R = fun e w' => e = .returned (.bool true) ∧ Frm No w w' := ⟨_, rfl⟩
  rw [← hR]
  have HQ := Lib.hid hR
  have hnot : ∀ (x : Bool) (w : World), (Op.unary .not (.bool x)).run Tryz.prog w = .ok (.bool (!x)) w := fun _ _ => rfl
  clear hR
  have H0 := awake_ok w ht
  obtain ⟨k, hk, hkw⟩ := wmod n 27 (by decide) (by decide)
  obtain ⟨s, hs⟩ : ∃ s, s = badL[k]'hk := ⟨_, rfl⟩
  have hpw := badGo_at badL 0 bad_all k hk
  rw [← hs, Nat.zero_add] at hpw
  have HW := Lib.hid hkw
  have HS := Lib.hid hs
  clear hkw hs
  go_enter Tryz.func5, Tryz.ntmps5
  go_wp2_with (fail)
  refine H0.mono ?_
  rintro e w0 ⟨rfl, f0⟩
  clear H0
  go_upto_region 6 with fail
  have hw2 : wrap64 ((IntKind.u64.wrap n).tmod 27) = (k : Int) := HW.out
  rw [hw2]
  clear hw2
  obtain ⟨W0, hW0⟩ : ∃ W, W = w0.alloc (.cells (badL.map Value.string).toArray 9) := ⟨_, rfl⟩
  have F0 : Frm No w W0 := by rw [hW0]; exact f0.al _
  have c0 : W0.cell? ⟨w0.heap.size, k, none⟩ = some (.string s) := by
    rw [hW0, obj_cell (heap_alloc_new w0 _), List.getElem?_toArray, List.getElem?_map, List.getElem?_eq_getElem hk, HS.out]
    rfl
  unfold badL at hW0
  simp only [List.map_cons, List.map_nil] at hW0
  rw [← hW0]
  clear hW0
  generalize w0.heap.size = g0 at c0 ⊢
  go_upto_if 16 with fail
  go_cut [5] (fun s5 wx => s5 = .int .i64 (bad1 k) ∧ wx = W0)
  case first =>
    by_cases h5 : k = 25
    · have q1 : ((k : Int) == 25) = true := by rw [beq_iff_eq]; omega
      rw [q1]
      have H5 := Lib.hid (show bad1 k = 1301 from if_pos h5)
      clear h5 q1
      go_wp2_with (fail)
      go_meet
      exact ⟨by rw [H5.out], rfl⟩
    · have q1 : ((k : Int) == 25) = false := by rw [beq_eq_false_iff_ne]; omega
      rw [q1]
      have H5 := Lib.hid (show bad1 k = 1500 from if_neg h5)
      clear h5 q1
      go_wp2_with (fail)
      go_meet
      exact ⟨by rw [H5.out], rfl⟩
  case rest =>
    obtain ⟨rfl, rfl⟩ := hcut
    go_upto_if 18 with fail
    go_cut [5] (fun s5 wx => s5 = .int .i64 (badW k) ∧ wc = wx)
    case first =>
      by_cases h5 : k = 26
      · have q1 : ((k : Int) == 26) = true := by rw [beq_iff_eq]; omega
        rw [q1]
        have H5 := Lib.hid (show badW k = 1300 from by rw [h5]; rfl)
        clear h5 q1
        go_wp2_with (fail)
        go_meet
        exact ⟨by rw [H5.out], rfl⟩
      · have q1 : ((k : Int) == 26) = false := by rw [beq_eq_false_iff_ne]; omega
        rw [q1]
        have H5 := Lib.hid (show badW k = bad1 k from by unfold badW bad1; rw [if_neg h5])
        clear h5 q1
        go_wp2_with (fail)
        go_meet
        exact ⟨by rw [H5.out], rfl⟩
    case rest =>
      obtain ⟨rfl, rfl⟩ := hcut
      have H1 := parse_c s wc (by omega)
      have hbad := parse_bad s.data.toList (by
        rw [hpw.1]
        unfold badW
        split
        · decide
        · split <;> decide)
      have hp : parseL s.data.toList = (emDm, badW k) := by
        rw [← hbad, ← hpw.1]
      rw [hp] at H1
      clear hbad hp hpw
      go_wp2_with (fail)
      refine H1.mono ?_
      rintro e w1 ⟨v1, rfl, O1, f1⟩
      have D1 := O1.rd
      obtain ⟨W1, hW1⟩ : ∃ W, W = w1.alloc (docB v1) := ⟨_, rfl⟩
      have X1 : W1.heap[w1.heap.size]? = some (docB v1) := by rw [hW1]; exact heap_alloc_new w1 _
      have F1 : Frm No w1 W1 := by rw [hW1]; exact (Frm.refl No w1).al _
      have D2 := D1.frm F1 fun _ _ _ h => h
      have G1 := (F0.trans f1).trans F1
      have HSM := sameDoc_ok D2 (rd_em W1)
      have p0 := obj_cell X1 0
      have p1 := obj_cell X1 1
      have p2 := obj_cell X1 2
      have p3 := obj_cell X1 3
      simp only [List.getElem?_toArray, List.getElem?_cons_succ, List.getElem?_cons_zero] at p0 p1 p2 p3
      have l1 := lt_of_block X1
      unfold docB at hW1
      unfold dval nsh at HSM
      unfold dval
      clear X1 D1 f1 F1 D2 H1 O1
      go_upto_region 11 with fail
      rw [← hW1]
      clear hW1
      go_wp2_with (fail)
      refine HSM.mono ?_
      rintro e w2 ⟨rfl, f2⟩
      clear HSM p0 p1 p2 p3 l1
      go_wp2_with (go_at_call 15; refine (num_ok _ _).mono ?_; rintro e w' ⟨rfl, rfl⟩)
      rw [HQ.out]
      exact ⟨rfl, G1.trans f2⟩
end Go.Proofs.YthaegncocdddfaaGreatDoor

/- The law PrintForms, walked. -/
namespace Go.Proofs.YthaegncocdddfaaGreatDoor
set_option linter.unusedVariables false
set_option linter.unusedSimpArgs false
open Go.RowKit Go.Lib Go.Tt
theorem pf_rd {w : World} {b : PfB} {c : PfC} {al nm fn fo : ByteArray} {dcl : Dc} {args : List Ar} {ifs : List Fi} {r2 r3 : SelC} {s2 s3 : Sl} (R : PfR w b (eDc.flat [dcl]) (eSel.flat [pfS b c al nm]) (eAr.flat args) (eFi.flat ifs) (eSel.flat [r2]) (eFg.flat [pfF b c fn fo]) (eSel.flat [r3])) (ok : c.ok) (ha : args.length = 4) (hi : ifs.length = 1) (h2 : RdSel w (fun _ => True) r2 s2) (h3 : RdSel w (fun _ => True) r3 s3) :
    RdDoc w (fun _ => True) (pfV b c) (pfD dcl al nm args ifs [s2] fn fo [s3]) := by
  refine ⟨rfl, R.d.rdB ok.d.1 ok.d.2 rfl (Nat.zero_lt_succ _), ⟨_, R.s.rdB ok.s.1 ok.s.2 rfl (Nat.zero_lt_succ _), rdAll_one ?_⟩, _, R.f.rdB ok.f.1 ok.f.2 rfl (Nat.zero_lt_succ _), _, [], rfl, ⟨rfl, rfl⟩, ⟨_, R.s3.rdB ok.s3.1 ok.s3.2 rfl (Nat.zero_lt_succ _), rdAll_one h3⟩, rfl⟩
  unfold RdSel pfS
  exact ⟨⟨rfl, rfl, rfl⟩, R.a.rdB (by rw [ha]; exact ok.a.1) ok.a.2 ha.symm (Nat.zero_lt_succ _), R.i.rdB (by rw [hi]; exact ok.i.1) ok.i.2 hi.symm (Nat.zero_lt_succ _), _, R.s2.rdB ok.s2.1 ok.s2.2 rfl (Nat.zero_lt_succ _), rdAll_one h2⟩
theorem PfR.set_d {w : World} {b : PfB} {ld ls la li l2 lf l3 : List Value} (R : PfR w b ld ls la li l2 lf l3) (hne : b.ne) (i : Nat) (u : Value) : PfR (w.setCell ⟨b.d, i, none⟩ u) b (ld.set i u) ls la li l2 lf l3 :=
  ⟨R.d.set i u, R.s.frm (Frm.setCell (F := fun k => k = b.d) w ⟨b.d, i, none⟩ u rfl) (fun e => hne.ds e.symm), R.a.frm (Frm.setCell (F := fun k => k = b.d) w ⟨b.d, i, none⟩ u rfl) (fun e => hne.da e.symm), R.i.frm (Frm.setCell (F := fun k => k = b.d) w ⟨b.d, i, none⟩ u rfl) (fun e => hne.di e.symm), R.s2.frm (Frm.setCell (F := fun k => k = b.d) w ⟨b.d, i, none⟩ u rfl) (fun e => hne.d2 e.symm), R.f.frm (Frm.setCell (F := fun k => k = b.d) w ⟨b.d, i, none⟩ u rfl) (fun e => hne.df e.symm), R.s3.frm (Frm.setCell (F := fun k => k = b.d) w ⟨b.d, i, none⟩ u rfl) (fun e => hne.d3 e.symm)⟩
theorem PfR.set_s {w : World} {b : PfB} {ld ls la li l2 lf l3 : List Value} (R : PfR w b ld ls la li l2 lf l3) (hne : b.ne) (i : Nat) (u : Value) : PfR (w.setCell ⟨b.s, i, none⟩ u) b ld (ls.set i u) la li l2 lf l3 :=
  ⟨R.d.frm (Frm.setCell (F := fun k => k = b.s) w ⟨b.s, i, none⟩ u rfl) (hne.ds), R.s.set i u, R.a.frm (Frm.setCell (F := fun k => k = b.s) w ⟨b.s, i, none⟩ u rfl) (fun e => hne.sa e.symm), R.i.frm (Frm.setCell (F := fun k => k = b.s) w ⟨b.s, i, none⟩ u rfl) (fun e => hne.si e.symm), R.s2.frm (Frm.setCell (F := fun k => k = b.s) w ⟨b.s, i, none⟩ u rfl) (fun e => hne.s2' e.symm), R.f.frm (Frm.setCell (F := fun k => k = b.s) w ⟨b.s, i, none⟩ u rfl) (fun e => hne.sf e.symm), R.s3.frm (Frm.setCell (F := fun k => k = b.s) w ⟨b.s, i, none⟩ u rfl) (fun e => hne.s3' e.symm)⟩
theorem PfR.set_a {w : World} {b : PfB} {ld ls la li l2 lf l3 : List Value} (R : PfR w b ld ls la li l2 lf l3) (hne : b.ne) (i : Nat) (u : Value) : PfR (w.setCell ⟨b.a, i, none⟩ u) b ld ls (la.set i u) li l2 lf l3 :=
  ⟨R.d.frm (Frm.setCell (F := fun k => k = b.a) w ⟨b.a, i, none⟩ u rfl) (hne.da), R.s.frm (Frm.setCell (F := fun k => k = b.a) w ⟨b.a, i, none⟩ u rfl) (hne.sa), R.a.set i u, R.i.frm (Frm.setCell (F := fun k => k = b.a) w ⟨b.a, i, none⟩ u rfl) (fun e => hne.ai e.symm), R.s2.frm (Frm.setCell (F := fun k => k = b.a) w ⟨b.a, i, none⟩ u rfl) (fun e => hne.a2 e.symm), R.f.frm (Frm.setCell (F := fun k => k = b.a) w ⟨b.a, i, none⟩ u rfl) (fun e => hne.af e.symm), R.s3.frm (Frm.setCell (F := fun k => k = b.a) w ⟨b.a, i, none⟩ u rfl) (fun e => hne.a3 e.symm)⟩
theorem PfR.set_i {w : World} {b : PfB} {ld ls la li l2 lf l3 : List Value} (R : PfR w b ld ls la li l2 lf l3) (hne : b.ne) (i : Nat) (u : Value) : PfR (w.setCell ⟨b.i, i, none⟩ u) b ld ls la (li.set i u) l2 lf l3 :=
  ⟨R.d.frm (Frm.setCell (F := fun k => k = b.i) w ⟨b.i, i, none⟩ u rfl) (hne.di), R.s.frm (Frm.setCell (F := fun k => k = b.i) w ⟨b.i, i, none⟩ u rfl) (hne.si), R.a.frm (Frm.setCell (F := fun k => k = b.i) w ⟨b.i, i, none⟩ u rfl) (hne.ai), R.i.set i u, R.s2.frm (Frm.setCell (F := fun k => k = b.i) w ⟨b.i, i, none⟩ u rfl) (fun e => hne.i2 e.symm), R.f.frm (Frm.setCell (F := fun k => k = b.i) w ⟨b.i, i, none⟩ u rfl) (fun e => hne.iff e.symm), R.s3.frm (Frm.setCell (F := fun k => k = b.i) w ⟨b.i, i, none⟩ u rfl) (fun e => hne.i3 e.symm)⟩
theorem PfR.set_s2 {w : World} {b : PfB} {ld ls la li l2 lf l3 : List Value} (R : PfR w b ld ls la li l2 lf l3) (hne : b.ne) (i : Nat) (u : Value) : PfR (w.setCell ⟨b.s2, i, none⟩ u) b ld ls la li (l2.set i u) lf l3 :=
  ⟨R.d.frm (Frm.setCell (F := fun k => k = b.s2) w ⟨b.s2, i, none⟩ u rfl) (hne.d2), R.s.frm (Frm.setCell (F := fun k => k = b.s2) w ⟨b.s2, i, none⟩ u rfl) (hne.s2'), R.a.frm (Frm.setCell (F := fun k => k = b.s2) w ⟨b.s2, i, none⟩ u rfl) (hne.a2), R.i.frm (Frm.setCell (F := fun k => k = b.s2) w ⟨b.s2, i, none⟩ u rfl) (hne.i2), R.s2.set i u, R.f.frm (Frm.setCell (F := fun k => k = b.s2) w ⟨b.s2, i, none⟩ u rfl) (fun e => hne.f2 e.symm), R.s3.frm (Frm.setCell (F := fun k => k = b.s2) w ⟨b.s2, i, none⟩ u rfl) (fun e => hne.s23 e.symm)⟩
theorem PfR.set_f {w : World} {b : PfB} {ld ls la li l2 lf l3 : List Value} (R : PfR w b ld ls la li l2 lf l3) (hne : b.ne) (i : Nat) (u : Value) : PfR (w.setCell ⟨b.f, i, none⟩ u) b ld ls la li l2 (lf.set i u) l3 :=
  ⟨R.d.frm (Frm.setCell (F := fun k => k = b.f) w ⟨b.f, i, none⟩ u rfl) (hne.df), R.s.frm (Frm.setCell (F := fun k => k = b.f) w ⟨b.f, i, none⟩ u rfl) (hne.sf), R.a.frm (Frm.setCell (F := fun k => k = b.f) w ⟨b.f, i, none⟩ u rfl) (hne.af), R.i.frm (Frm.setCell (F := fun k => k = b.f) w ⟨b.f, i, none⟩ u rfl) (hne.iff), R.s2.frm (Frm.setCell (F := fun k => k = b.f) w ⟨b.f, i, none⟩ u rfl) (hne.f2), R.f.set i u, R.s3.frm (Frm.setCell (F := fun k => k = b.f) w ⟨b.f, i, none⟩ u rfl) (fun e => hne.f3 e.symm)⟩
theorem PfR.set_s3 {w : World} {b : PfB} {ld ls la li l2 lf l3 : List Value} (R : PfR w b ld ls la li l2 lf l3) (hne : b.ne) (i : Nat) (u : Value) : PfR (w.setCell ⟨b.s3, i, none⟩ u) b ld ls la li l2 lf (l3.set i u) :=
  ⟨R.d.frm (Frm.setCell (F := fun k => k = b.s3) w ⟨b.s3, i, none⟩ u rfl) (hne.d3), R.s.frm (Frm.setCell (F := fun k => k = b.s3) w ⟨b.s3, i, none⟩ u rfl) (hne.s3'), R.a.frm (Frm.setCell (F := fun k => k = b.s3) w ⟨b.s3, i, none⟩ u rfl) (hne.a3), R.i.frm (Frm.setCell (F := fun k => k = b.s3) w ⟨b.s3, i, none⟩ u rfl) (hne.i3), R.s2.frm (Frm.setCell (F := fun k => k = b.s3) w ⟨b.s3, i, none⟩ u rfl) (hne.s23), R.f.frm (Frm.setCell (F := fun k => k = b.s3) w ⟨b.s3, i, none⟩ u rfl) (hne.f3), R.s3.set i u⟩
theorem PfR.frm {w w' : World} {b : PfB} {ld ls la li l2 lf l3 : List Value} (R : PfR w b ld ls la li l2 lf l3) (f : Frm No w w') : PfR w' b ld ls la li l2 lf l3 :=
  ⟨R.d.frm f id, R.s.frm f id, R.a.frm f id, R.i.frm f id, R.s2.frm f id, R.f.frm f id, R.s3.frm f id⟩
theorem PfR.out {w w' : World} {b : PfB} {F : Nat → Prop} {ld ls la li l2 lf l3 : List Value} (R : PfR w b ld ls la li l2 lf l3) (f : Frm F w w') (h : ¬ F b.d ∧ ¬ F b.s ∧ ¬ F b.a ∧ ¬ F b.i ∧ ¬ F b.s2 ∧ ¬ F b.f ∧ ¬ F b.s3) : PfR w' b ld ls la li l2 lf l3 :=
  ⟨R.d.frm f h.1, R.s.frm f h.2.1, R.a.frm f h.2.2.1, R.i.frm f h.2.2.2.1, R.s2.frm f h.2.2.2.2.1, R.f.frm f h.2.2.2.2.2.1, R.s3.frm f h.2.2.2.2.2.2⟩
/-- What stands behind the change. -/
structure PfEnd (w wx : World) (db : Nat) (d : Dm) : Prop where
  rd : ∃ v : DocC, wx.heap[db]? = some (docB v) ∧ RdDoc wx (fun _ => True) v d
  no : NoT d
  frm : Frm No w wx
set_option maxHeartbeats 16000000 in
set_option maxRecDepth 100000 in
theorem pforms_law (n x : Int) (w : World) (ht : Tab w) : Calls Tryz.prog 7 #[.int .i64 n, .int .i64 x] w fun e w' => e = .returned (.bool true) ∧ Frm No w w' := by
  obtain ⟨R, hR⟩ : ∃ R : Ending → World → Prop, R = fun e w' => e = .returned (.bool true) ∧ Frm No w w' := ⟨_, rfl⟩
  rw [← hR]
  have HQ := Lib.hid hR
  have hnot : ∀ (x : Bool) (w : World), (Op.unary .not (.bool x)).run Tryz.prog w = .ok (.bool (!x)) w := fun _ _ => rfl
  clear hR
  have H0 := awake_ok w ht
  obtain ⟨j, hj, hjw⟩ : ∃ k : Nat, k < 19 ∧ (IntKind.u64.wrap n).tmod 19 = (k : Int) := by
    have h0 : 0 ≤ IntKind.u64.wrap n := by rw [IntKind.wrap_u64]; omega
    rw [Int.tmod_eq_emod_of_nonneg h0]
    have h1 := Int.emod_nonneg (IntKind.u64.wrap n) (b := 19) (by decide)
    have h2 := Int.emod_lt_of_pos (IntKind.u64.wrap n) (b := 19) (by decide)
    exact ⟨((IntKind.u64.wrap n) % 19).toNat, by omega, by omega⟩
  obtain ⟨e, he, hew⟩ : ∃ e : Nat, e < 64 ∧ x % 64 = (e : Int) := by
    have h1 := Int.emod_nonneg x (b := 64) (by decide)
    have h2 := Int.emod_lt_of_pos x (b := 64) (by decide)
    exact ⟨(x % 64).toNat, by omega, by omega⟩
  have HJW := Lib.hid hjw
  have h63 := and_63
  clear hjw
  go_enter Tryz.func7, Tryz.ntmps7
  go_wp2_with (fail)
  refine H0.mono ?_
  rintro e0 w0 ⟨rfl, f0⟩
  have H1 := parse_c pfT w0 (by decide)
  rw [pf_parse] at H1
  clear H0
  go_wp2_with (fail)
  refine H1.mono ?_
  rintro e1 w1 ⟨v1, rfl, O1, f1⟩
  obtain ⟨b, c, n1, n2, n3, n4, n5, n6, rfl, hne, hok, ⟨k1, k2, k3, k4, k5, k6⟩, ⟨m1, m2, m3, m4, m5, m6, m7⟩, PR⟩ := pf_shape O1
  obtain ⟨bd, bs, ba, bi, b2, bf, b3⟩ := b
  obtain ⟨cd, cs, ca, ci, c2, cf, c3⟩ := c
  obtain ⟨⟨bd, bs, ba, bi, b2, bf, b3⟩, hbq⟩ : ∃ q : PfB, q = ⟨bd, bs, ba, bi, b2, bf, b3⟩ := ⟨_, rfl⟩
  cases hbq
  simp only at hok m1 m2 m3 m4 m5 m6 m7
  obtain ⟨W1, hW1⟩ : ∃ W, W = w1.alloc (docB (pfV ⟨bd, bs, ba, bi, b2, bf, b3⟩ ⟨cd, cs, ca, ci, c2, cf, c3⟩)) := ⟨_, rfl⟩
  have X1 : W1.heap[w1.heap.size]? = some (docB (pfV ⟨bd, bs, ba, bi, b2, bf, b3⟩ ⟨cd, cs, ca, ci, c2, cf, c3⟩)) := by rw [hW1]; exact heap_alloc_new w1 _
  have F1 : Frm No w1 W1 := by rw [hW1]; exact (Frm.refl No w1).al _
  have PR1 : PfR W1 ⟨bd, bs, ba, bi, b2, bf, b3⟩ _ _ _ _ _ _ _ := ⟨PR.d.frm F1 id, PR.s.frm F1 id, PR.a.frm F1 id, PR.i.frm F1 id, PR.s2.frm F1 id, PR.f.frm F1 id, PR.s3.frm F1 id⟩
  have G1 := (f0.trans f1).trans F1
  have lo : ∀ {k}, Bt w0.heap.size w1.heap.size k → w.heap.size ≤ k ∧ k < w1.heap.size := fun hk => ⟨Nat.le_trans f0.size hk.1, hk.2⟩
  have m1 := lo m1
  have m2 := lo m2
  have m3 := lo m3
  have m4 := lo m4
  have m5 := lo m5
  have m6 := lo m6
  have m7 := lo m7
  have hdb : w.heap.size ≤ w1.heap.size := by omega
  have d0 : W1.cell? ⟨w1.heap.size, 0, none⟩ = some (.bool false) := obj_cell X1 0
  have d1 : W1.cell? ⟨w1.heap.size, 1, none⟩ = some (.slice (some ⟨bd, 0, none⟩) 1 cd) := obj_cell X1 1
  have d2 : W1.cell? ⟨w1.heap.size, 2, none⟩ = some (.slice (some ⟨bs, 0, none⟩) 1 cs) := obj_cell X1 2
  have d3 : W1.cell? ⟨w1.heap.size, 3, none⟩ = some (.slice (some ⟨bf, 0, none⟩) 1 cf) := obj_cell X1 3
  have s0 : W1.cell? ⟨bs, 0, none⟩ = some (.bool false) := PR1.s.cell rfl
  have s1 : W1.cell? ⟨bs, 1, none⟩ = some (.string bx) := PR1.s.cell rfl
  have s2 : W1.cell? ⟨bs, 2, none⟩ = some (.string bT) := PR1.s.cell rfl
  have s3 : W1.cell? ⟨bs, 3, none⟩ = some (.slice (some ⟨ba, 0, none⟩) 4 ca) := PR1.s.cell rfl
  have s4 : W1.cell? ⟨bs, 4, none⟩ = some (.slice (some ⟨bi, 0, none⟩) 1 ci) := PR1.s.cell rfl
  have s5 : W1.cell? ⟨bs, 5, none⟩ = some (.slice (some ⟨b2, 0, none⟩) 1 c2) := PR1.s.cell rfl
  have q2 : W1.cell? ⟨bf, 2, none⟩ = some (.slice (some ⟨b3, 0, none⟩) 1 c3) := PR1.f.cell rfl
  have ldb := lt_of_block X1
  have lbs := PR1.s.lt
  have lbf := PR1.f.lt
  have lba := PR1.a.lt
  have lbi := PR1.i.lt
  have lb2 := PR1.s2.lt
  have lbd := PR1.d.lt
  unfold docB pfV at hW1
  unfold dval pfV
  simp only at hW1 ⊢
  clear lo O1 f1 F1 f0 H1 PR
  go_upto_region 5 with fail
  rw [← hW1]
  clear hW1
  go_upto_block 0 with (go_at_call 15; refine (num_ok _ _).mono ?_; rintro e wq ⟨rfl, hq⟩; obtain rfl := hq.symm)
  have X2 := (al_old X1 (o' := .cells #[.bool false, .string bx, .string bT, .slice (some ⟨ba, 0, none⟩) 4 ca, .slice (some ⟨bi, 0, none⟩) 1 ci, .slice (some ⟨b2, 0, none⟩) 1 c2] 51 (0, 0)))
  have T2 := heap_alloc_new W1 (.cells #[.bool false, .string bx, .string bT, .slice (some ⟨ba, 0, none⟩) 4 ca, .slice (some ⟨bi, 0, none⟩) 1 ci, .slice (some ⟨b2, 0, none⟩) 1 c2] 51 (0, 0))
  have FA : Frm No W1 (W1.alloc (.cells #[.bool false, .string bx, .string bT, .slice (some ⟨ba, 0, none⟩) 4 ca, .slice (some ⟨bi, 0, none⟩) 1 ci, .slice (some ⟨b2, 0, none⟩) 1 c2] 51 (0, 0))) := (Frm.refl No W1).al _
  have PR2 := PR1.frm FA
  have G2 := G1.trans FA
  have hlt2 : w1.heap.size < (W1.alloc (.cells #[.bool false, .string bx, .string bT, .slice (some ⟨ba, 0, none⟩) 4 ca, .slice (some ⟨bi, 0, none⟩) 1 ci, .slice (some ⟨b2, 0, none⟩) 1 c2] 51 (0, 0))).heap.size := lt_of_block X2
  clear d0 d1 d2 d3 s0 s1 s2 s3 s4 s5 q2 ldb lbs lbf lba lbi lb2 lbd X1 PR1 G1 FA
  generalize W1.alloc (.cells #[.bool false, .string bx, .string bT, .slice (some ⟨ba, 0, none⟩) 4 ca, .slice (some ⟨bi, 0, none⟩) 1 ci, .slice (some ⟨b2, 0, none⟩) 1 c2] 51 (0, 0)) = W2 at X2 T2 PR2 G2 hlt2 ⊢
  generalize W1.heap.size = tb at T2 ⊢
  have hjw := HJW.out
  rw [hjw]
  clear hjw HJW h63 hew
  have d1 : W2.cell? ⟨w1.heap.size, 1, none⟩ = some (.slice (some ⟨bd, 0, none⟩) 1 cd) := obj_cell X2 1
  have d2 : W2.cell? ⟨w1.heap.size, 2, none⟩ = some (.slice (some ⟨bs, 0, none⟩) 1 cs) := obj_cell X2 2
  have d3 : W2.cell? ⟨w1.heap.size, 3, none⟩ = some (.slice (some ⟨bf, 0, none⟩) 1 cf) := obj_cell X2 3
  have s3 : W2.cell? ⟨tb, 3, none⟩ = some (.slice (some ⟨ba, 0, none⟩) 4 ca) := obj_cell T2 3
  have s4 : W2.cell? ⟨tb, 4, none⟩ = some (.slice (some ⟨bi, 0, none⟩) 1 ci) := obj_cell T2 4
  have s5 : W2.cell? ⟨tb, 5, none⟩ = some (.slice (some ⟨b2, 0, none⟩) 1 c2) := obj_cell T2 5
  have zd := obj_frz X2
  have ldb := lt_of_block X2
  have ltb := lt_of_block T2
  have zbs := PR2.s.frz
  have zba := PR2.a.frz
  have zbi := PR2.i.frz
  have zb2 := PR2.s2.frz
  have zbf := PR2.f.frz
  have zbd := PR2.d.frz
  have lbs := PR2.s.lt
  have lba := PR2.a.lt
  have lbi := PR2.i.lt
  have lb2 := PR2.s2.lt
  have lbf := PR2.f.lt
  have lbd := PR2.d.lt
  have HX2 := Lib.hid X2
  have HPR := Lib.hid PR2
  clear X2 T2 PR2
  simp only at lbs lba lbi lb2 lbf lbd zbs zba zbi zb2 zbf zbd
  go_cut [] (fun wx => ∃ D, PfEnd w wx w1.heap.size D)
  case first =>
    obtain rfl | rfl | rfl | rfl | rfl | rfl | rfl | rfl | rfl | rfl | rfl | rfl | rfl | rfl | rfl | rfl | rfl | rfl | rfl : j = 0 ∨ j = 1 ∨ j = 2 ∨ j = 3 ∨ j = 4 ∨ j = 5 ∨ j = 6 ∨ j = 7 ∨ j = 8 ∨ j = 9 ∨ j = 10 ∨ j = 11 ∨ j = 12 ∨ j = 13 ∨ j = 14 ∨ j = 15 ∨ j = 16 ∨ j = 17 ∨ j = 18 := by omega
    · have oc : W2.cell? ⟨w1.heap.size, 2, none⟩ = some (.slice (some ⟨bs, 0, none⟩) 1 cs) := d2
      go_wp2_with (fail)
      go_meet
      have FS : Frm (fun k => k = w1.heap.size) W2 (W2.setCell ⟨w1.heap.size, 2, none⟩ (.slice none 0 0)) := Frm.setCell W2 _ _ rfl
      have HB := obj_setCell (i := 2) HX2.out (.slice none 0 0)
      have R3 := HPR.out.out FS ⟨by show ¬ bd = _; omega, by show ¬ bs = _; omega, by show ¬ ba = _; omega, by show ¬ bi = _; omega, by show ¬ b2 = _; omega, by show ¬ bf = _; omega, by show ¬ b3 = _; omega⟩
      exact ⟨pfN 0 1, ⟨⟨false, ⟨some ⟨bd, 0, none⟩, 1, cd⟩, nsh, ⟨some ⟨bf, 0, none⟩, 1, cf⟩⟩, HB, ⟨rfl, R3.d.rdB (xs := [(⟨bv, 0⟩ : Dc)]) hok.d.1 hok.d.2 rfl (Nat.zero_lt_succ _), ⟨[], rdB_no _ _, rdAll_no _⟩, _, R3.f.rdB (xs := [pfF ⟨bd, bs, ba, bi, b2, bf, b3⟩ ⟨cd, cs, ca, ci, c2, cf, c3⟩ bF bT]) hok.f.1 hok.f.2 rfl (Nat.zero_lt_succ _), _, [], rfl, ⟨rfl, rfl⟩, ⟨_, R3.s3.rdB (xs := [(⟨false, noTx, ba_, n4, n5, n6⟩ : SelC)]) hok.s3.1 hok.s3.2 rfl (Nat.zero_lt_succ _), rdAll_one (k4.sel k5 k6 _)⟩, rfl⟩⟩, pf_at (j := 0) (by decide) (by decide), G2.then FS fun k hk h => by omega⟩
    · have oc : W2.cell? ⟨bs, 2, none⟩ = some (.string bT) := HPR.out.s.cell rfl
      go_wp2_with (fail)
      go_meet
      have R3 : PfR (W2.setCell ⟨bs, 2, none⟩ (.string noTx)) ⟨bd, bs, ba, bi, b2, bf, b3⟩ (eDc.flat [⟨bv, 0⟩]) (eSel.flat [pfS ⟨bd, bs, ba, bi, b2, bf, b3⟩ ⟨cd, cs, ca, ci, c2, cf, c3⟩ bx noTx]) (eAr.flat pfA) (eFi.flat pfI) (eSel.flat [⟨true, noTx, bF, n1, n2, n3⟩]) (eFg.flat [pfF ⟨bd, bs, ba, bi, b2, bf, b3⟩ ⟨cd, cs, ca, ci, c2, cf, c3⟩ bF bT]) (eSel.flat [⟨false, noTx, ba_, n4, n5, n6⟩]) := HPR.out.set_s hne 2 (.string noTx)
      have FS : Frm (fun k => k = bs) W2 (W2.setCell ⟨bs, 2, none⟩ (.string noTx)) := Frm.setCell W2 _ _ rfl
      exact ⟨pfN 1 1, ⟨_, FS.obj HX2.out (by omega), pf_rd (s2 := ps2) (s3 := ps3) R3 hok rfl rfl (k1.sel k2 k3 _) (k4.sel k5 k6 _)⟩, pf_at (j := 1) (by decide) (by decide), G2.then FS fun k hk h => by omega⟩
    · have oc : W2.cell? ⟨bs, 1, none⟩ = some (.string bx) := HPR.out.s.cell rfl
      go_wp2_with (fail)
      go_meet
      have R3 : PfR (W2.setCell ⟨bs, 1, none⟩ (.string ⟨#[49]⟩)) ⟨bd, bs, ba, bi, b2, bf, b3⟩ (eDc.flat [⟨bv, 0⟩]) (eSel.flat [pfS ⟨bd, bs, ba, bi, b2, bf, b3⟩ ⟨cd, cs, ca, ci, c2, cf, c3⟩ ⟨#[49]⟩ bT]) (eAr.flat pfA) (eFi.flat pfI) (eSel.flat [⟨true, noTx, bF, n1, n2, n3⟩]) (eFg.flat [pfF ⟨bd, bs, ba, bi, b2, bf, b3⟩ ⟨cd, cs, ca, ci, c2, cf, c3⟩ bF bT]) (eSel.flat [⟨false, noTx, ba_, n4, n5, n6⟩]) := HPR.out.set_s hne 1 (.string ⟨#[49]⟩)
      have FS : Frm (fun k => k = bs) W2 (W2.setCell ⟨bs, 1, none⟩ (.string ⟨#[49]⟩)) := Frm.setCell W2 _ _ rfl
      exact ⟨pfN 2 1, ⟨_, FS.obj HX2.out (by omega), pf_rd (s2 := ps2) (s3 := ps3) R3 hok rfl rfl (k1.sel k2 k3 _) (k4.sel k5 k6 _)⟩, pf_at (j := 2) (by decide) (by decide), G2.then FS fun k hk h => by omega⟩
    · have oc : W2.cell? ⟨ba, 0, none⟩ = some (.string ⟨#[105, 100]⟩) := HPR.out.a.cell rfl
      go_wp2_with (fail)
      go_meet
      have R3 : PfR (W2.setCell ⟨ba, 0, none⟩ (.string ⟨#[97, 32, 98]⟩)) ⟨bd, bs, ba, bi, b2, bf, b3⟩ (eDc.flat [⟨bv, 0⟩]) (eSel.flat [pfS ⟨bd, bs, ba, bi, b2, bf, b3⟩ ⟨cd, cs, ca, ci, c2, cf, c3⟩ bx bT]) (eAr.flat (pfA' ⟨⟨#[97, 32, 98]⟩, ⟨3, 0, bv⟩⟩ pa1 pa2 pa3)) (eFi.flat pfI) (eSel.flat [⟨true, noTx, bF, n1, n2, n3⟩]) (eFg.flat [pfF ⟨bd, bs, ba, bi, b2, bf, b3⟩ ⟨cd, cs, ca, ci, c2, cf, c3⟩ bF bT]) (eSel.flat [⟨false, noTx, ba_, n4, n5, n6⟩]) := HPR.out.set_a hne 0 (.string ⟨#[97, 32, 98]⟩)
      have FS : Frm (fun k => k = ba) W2 (W2.setCell ⟨ba, 0, none⟩ (.string ⟨#[97, 32, 98]⟩)) := Frm.setCell W2 _ _ rfl
      exact ⟨pfN 3 1, ⟨_, FS.obj HX2.out (by omega), pf_rd (s2 := ps2) (s3 := ps3) R3 hok rfl rfl (k1.sel k2 k3 _) (k4.sel k5 k6 _)⟩, pf_at (j := 3) (by decide) (by decide), G2.then FS fun k hk h => by omega⟩
    · have oc : W2.cell? ⟨ba, 3, none⟩ = some (.string bv) := HPR.out.a.cell rfl
      go_wp2_with (fail)
      go_meet
      have R3 : PfR (W2.setCell ⟨ba, 3, none⟩ (.string noTx)) ⟨bd, bs, ba, bi, b2, bf, b3⟩ (eDc.flat [⟨bv, 0⟩]) (eSel.flat [pfS ⟨bd, bs, ba, bi, b2, bf, b3⟩ ⟨cd, cs, ca, ci, c2, cf, c3⟩ bx bT]) (eAr.flat (pfA' ⟨⟨#[105, 100]⟩, ⟨3, 0, noTx⟩⟩ pa1 pa2 pa3)) (eFi.flat pfI) (eSel.flat [⟨true, noTx, bF, n1, n2, n3⟩]) (eFg.flat [pfF ⟨bd, bs, ba, bi, b2, bf, b3⟩ ⟨cd, cs, ca, ci, c2, cf, c3⟩ bF bT]) (eSel.flat [⟨false, noTx, ba_, n4, n5, n6⟩]) := HPR.out.set_a hne 3 (.string noTx)
      have FS : Frm (fun k => k = ba) W2 (W2.setCell ⟨ba, 3, none⟩ (.string noTx)) := Frm.setCell W2 _ _ rfl
      exact ⟨pfN 4 1, ⟨_, FS.obj HX2.out (by omega), pf_rd (s2 := ps2) (s3 := ps3) R3 hok rfl rfl (k1.sel k2 k3 _) (k4.sel k5 k6 _)⟩, pf_at (j := 4) (by decide) (by decide), G2.then FS fun k hk h => by omega⟩
    · have oc : W2.cell? ⟨ba, 6, none⟩ = some (.int .i64 1) := HPR.out.a.cell rfl
      go_wp2_with (fail)
      go_meet
      have R3 : PfR (W2.setCell ⟨ba, 6, none⟩ (.int .i64 1000000000000000)) ⟨bd, bs, ba, bi, b2, bf, b3⟩ (eDc.flat [⟨bv, 0⟩]) (eSel.flat [pfS ⟨bd, bs, ba, bi, b2, bf, b3⟩ ⟨cd, cs, ca, ci, c2, cf, c3⟩ bx bT]) (eAr.flat (pfA' pa0 ⟨⟨#[98]⟩, ⟨0, 1000000000000000, noTx⟩⟩ pa2 pa3)) (eFi.flat pfI) (eSel.flat [⟨true, noTx, bF, n1, n2, n3⟩]) (eFg.flat [pfF ⟨bd, bs, ba, bi, b2, bf, b3⟩ ⟨cd, cs, ca, ci, c2, cf, c3⟩ bF bT]) (eSel.flat [⟨false, noTx, ba_, n4, n5, n6⟩]) := HPR.out.set_a hne 6 (.int .i64 1000000000000000)
      have FS : Frm (fun k => k = ba) W2 (W2.setCell ⟨ba, 6, none⟩ (.int .i64 1000000000000000)) := Frm.setCell W2 _ _ rfl
      exact ⟨pfN 5 1, ⟨_, FS.obj HX2.out (by omega), pf_rd (s2 := ps2) (s3 := ps3) R3 hok rfl rfl (k1.sel k2 k3 _) (k4.sel k5 k6 _)⟩, pf_at (j := 5) (by decide) (by decide), G2.then FS fun k hk h => by omega⟩
    · have oc : W2.cell? ⟨ba, 7, none⟩ = some (.string noTx) := HPR.out.a.cell rfl
      go_wp2_with (fail)
      go_meet
      have R3 : PfR (W2.setCell ⟨ba, 7, none⟩ (.string ⟨#[120]⟩)) ⟨bd, bs, ba, bi, b2, bf, b3⟩ (eDc.flat [⟨bv, 0⟩]) (eSel.flat [pfS ⟨bd, bs, ba, bi, b2, bf, b3⟩ ⟨cd, cs, ca, ci, c2, cf, c3⟩ bx bT]) (eAr.flat (pfA' pa0 ⟨⟨#[98]⟩, ⟨0, 1, ⟨#[120]⟩⟩⟩ pa2 pa3)) (eFi.flat pfI) (eSel.flat [⟨true, noTx, bF, n1, n2, n3⟩]) (eFg.flat [pfF ⟨bd, bs, ba, bi, b2, bf, b3⟩ ⟨cd, cs, ca, ci, c2, cf, c3⟩ bF bT]) (eSel.flat [⟨false, noTx, ba_, n4, n5, n6⟩]) := HPR.out.set_a hne 7 (.string ⟨#[120]⟩)
      have FS : Frm (fun k => k = ba) W2 (W2.setCell ⟨ba, 7, none⟩ (.string ⟨#[120]⟩)) := Frm.setCell W2 _ _ rfl
      exact ⟨pfN 6 1, ⟨_, FS.obj HX2.out (by omega), pf_rd (s2 := ps2) (s3 := ps3) R3 hok rfl rfl (k1.sel k2 k3 _) (k4.sel k5 k6 _)⟩, pf_at (j := 6) (by decide) (by decide), G2.then FS fun k hk h => by omega⟩
    · have oc : W2.cell? ⟨ba, 11, none⟩ = some (.string ⟨#[113]⟩) := HPR.out.a.cell rfl
      have hn0 : 256 + (1 + (e : Int)) = ((257 + e : Nat) : Int) := by omega
      go_wp2_with (fail)
      refine wp_region_plan [([0, 1, 2, 3], [1]), ([4], [1]), ([5], [1]), ([6, 7, 8, 9], [])] 228 (by kernel_rfl) (by kernel_rfl) (by simp) ?_
      intro N hN
      simp only [wpSegs, List.map_cons, List.map_nil, List.getD_cons_zero, List.getD_cons_succ]
      go_wp2_with (fail)
      refine ⟨again_cons (again_of rfl rfl ?_) again_nil, ?_⟩
      · go_simp
      go_wp2_with (at_make; refine wpList_mk1 _ rfl _ _ 58 rfl 5 (.int .u8 0) 1 Tryz.underlying58 i_u8 rfl _ _ _ _ (257 + e) rfl rfl (by omega) (by omega) (by omega) (by unfold maxLen; omega) ?_)
      intro w3 o3 g3
      have f3 := grown_no g3
      have FW : Frm No W2 w3 := (Frm.drew No W2).trans f3
      have y3 : w3.cell? ⟨tb, 3, none⟩ = some (.slice (some ⟨ba, 0, none⟩) 4 ca) := (FW.cell (p := ⟨tb, 3, none⟩) ltb id).trans s3
      have PR3 := HPR.out.frm FW
      have oc3 : w3.cell? ⟨ba, 11, none⟩ = some (.string ⟨#[113]⟩) := PR3.a.cell rfl
      have zba3 : ∀ i, w3.frozen? ⟨ba, i, none⟩ = false := PR3.a.frz
      have lba3 : ba < w3.heap.size := PR3.a.lt
      have ltb3 : tb < w3.heap.size := Nat.lt_of_lt_of_le ltb FW.size
      have hcv := conv_zeros o3
      have HP3 := Lib.hid PR3
      clear o3 g3 f3 PR3
      go_wp2_with (fail)
      refine ⟨again_of rfl rfl ?_, ?_⟩
      · go_simp
      go_wp2_with (fail)
      refine ⟨again_of rfl rfl ?_, ?_⟩
      · go_simp
      go_wp2_with (fail)
      go_meet
      rw [show (⟨Array.replicate (257 + e) 0⟩ : ByteArray) = zerosB (256 + (e + 1)) from by unfold zerosB; rw [List.toArray_replicate, show 256 + (e + 1) = 257 + e from by omega]]
      have R3 : PfR (w3.setCell ⟨ba, 11, none⟩ (.string (zerosB (256 + (e + 1))))) ⟨bd, bs, ba, bi, b2, bf, b3⟩ (eDc.flat [⟨bv, 0⟩]) (eSel.flat [pfS ⟨bd, bs, ba, bi, b2, bf, b3⟩ ⟨cd, cs, ca, ci, c2, cf, c3⟩ bx bT]) (eAr.flat (pfA' pa0 pa1 ⟨⟨#[99]⟩, ⟨1, 0, zerosB (256 + (e + 1))⟩⟩ pa3)) (eFi.flat pfI) (eSel.flat [⟨true, noTx, bF, n1, n2, n3⟩]) (eFg.flat [pfF ⟨bd, bs, ba, bi, b2, bf, b3⟩ ⟨cd, cs, ca, ci, c2, cf, c3⟩ bF bT]) (eSel.flat [⟨false, noTx, ba_, n4, n5, n6⟩]) := HP3.out.set_a hne 11 (.string (zerosB (256 + (e + 1))))
      have FS : Frm (fun k => k = ba) w3 (w3.setCell ⟨ba, 11, none⟩ (.string (zerosB (256 + (e + 1))))) := Frm.setCell w3 _ _ rfl
      exact ⟨pfN 7 (e + 1), ⟨_, FS.obj (FW.obj HX2.out id) (by omega), pf_rd (s2 := ps2) (s3 := ps3) R3 hok rfl rfl (k1.sel k2 k3 _) (k4.sel k5 k6 _)⟩, pf_dep pf_7 he, (G2.trans FW).then FS fun k hk h => by omega⟩
    · have oc : W2.cell? ⟨ba, 14, none⟩ = some (.int .i64 1) := HPR.out.a.cell rfl
      go_wp2_with (fail)
      go_meet
      rw [show (1 + (1 + (e : Int))) = 1 + ((e + 1 : Nat) : Int) from by omega]
      have R3 : PfR (W2.setCell ⟨ba, 14, none⟩ (.int .i64 (1 + ((e + 1 : Nat) : Int)))) ⟨bd, bs, ba, bi, b2, bf, b3⟩ (eDc.flat [⟨bv, 0⟩]) (eSel.flat [pfS ⟨bd, bs, ba, bi, b2, bf, b3⟩ ⟨cd, cs, ca, ci, c2, cf, c3⟩ bx bT]) (eAr.flat (pfA' pa0 pa1 pa2 ⟨⟨#[100]⟩, ⟨2, 1 + ((e + 1 : Nat) : Int), noTx⟩⟩)) (eFi.flat pfI) (eSel.flat [⟨true, noTx, bF, n1, n2, n3⟩]) (eFg.flat [pfF ⟨bd, bs, ba, bi, b2, bf, b3⟩ ⟨cd, cs, ca, ci, c2, cf, c3⟩ bF bT]) (eSel.flat [⟨false, noTx, ba_, n4, n5, n6⟩]) := HPR.out.set_a hne 14 (.int .i64 (1 + ((e + 1 : Nat) : Int)))
      have FS : Frm (fun k => k = ba) W2 (W2.setCell ⟨ba, 14, none⟩ (.int .i64 (1 + ((e + 1 : Nat) : Int)))) := Frm.setCell W2 _ _ rfl
      exact ⟨pfN 8 (e + 1), ⟨_, FS.obj HX2.out (by omega), pf_rd (s2 := ps2) (s3 := ps3) R3 hok rfl rfl (k1.sel k2 k3 _) (k4.sel k5 k6 _)⟩, pf_dep pf_8 he, G2.then FS fun k hk h => by omega⟩
    · have oc : W2.cell? ⟨ba, 13, none⟩ = some (.int .i64 2) := HPR.out.a.cell rfl
      go_wp2_with (fail)
      go_meet
      rw [show (3 + (1 + (e : Int))) = 3 + ((e + 1 : Nat) : Int) from by omega]
      have R3 : PfR (W2.setCell ⟨ba, 13, none⟩ (.int .i64 (3 + ((e + 1 : Nat) : Int)))) ⟨bd, bs, ba, bi, b2, bf, b3⟩ (eDc.flat [⟨bv, 0⟩]) (eSel.flat [pfS ⟨bd, bs, ba, bi, b2, bf, b3⟩ ⟨cd, cs, ca, ci, c2, cf, c3⟩ bx bT]) (eAr.flat (pfA' pa0 pa1 pa2 ⟨⟨#[100]⟩, ⟨3 + ((e + 1 : Nat) : Int), 1, noTx⟩⟩)) (eFi.flat pfI) (eSel.flat [⟨true, noTx, bF, n1, n2, n3⟩]) (eFg.flat [pfF ⟨bd, bs, ba, bi, b2, bf, b3⟩ ⟨cd, cs, ca, ci, c2, cf, c3⟩ bF bT]) (eSel.flat [⟨false, noTx, ba_, n4, n5, n6⟩]) := HPR.out.set_a hne 13 (.int .i64 (3 + ((e + 1 : Nat) : Int)))
      have FS : Frm (fun k => k = ba) W2 (W2.setCell ⟨ba, 13, none⟩ (.int .i64 (3 + ((e + 1 : Nat) : Int)))) := Frm.setCell W2 _ _ rfl
      exact ⟨pfN 9 (e + 1), ⟨_, FS.obj HX2.out (by omega), pf_rd (s2 := ps2) (s3 := ps3) R3 hok rfl rfl (k1.sel k2 k3 _) (k4.sel k5 k6 _)⟩, pf_dep pf_9 he, G2.then FS fun k hk h => by omega⟩
    · have oc : W2.cell? ⟨bi, 1, none⟩ = some (.int .i64 3) := HPR.out.i.cell rfl
      go_wp2_with (fail)
      go_meet
      rw [show (-(1 + (e : Int))) = -((e + 1 : Nat) : Int) from by omega]
      have R3 : PfR (W2.setCell ⟨bi, 1, none⟩ (.int .i64 (-((e + 1 : Nat) : Int)))) ⟨bd, bs, ba, bi, b2, bf, b3⟩ (eDc.flat [⟨bv, 0⟩]) (eSel.flat [pfS ⟨bd, bs, ba, bi, b2, bf, b3⟩ ⟨cd, cs, ca, ci, c2, cf, c3⟩ bx bT]) (eAr.flat pfA) (eFi.flat [⟨true, ⟨-((e + 1 : Nat) : Int), 0, bv⟩⟩]) (eSel.flat [⟨true, noTx, bF, n1, n2, n3⟩]) (eFg.flat [pfF ⟨bd, bs, ba, bi, b2, bf, b3⟩ ⟨cd, cs, ca, ci, c2, cf, c3⟩ bF bT]) (eSel.flat [⟨false, noTx, ba_, n4, n5, n6⟩]) := HPR.out.set_i hne 1 (.int .i64 (-((e + 1 : Nat) : Int)))
      have FS : Frm (fun k => k = bi) W2 (W2.setCell ⟨bi, 1, none⟩ (.int .i64 (-((e + 1 : Nat) : Int)))) := Frm.setCell W2 _ _ rfl
      exact ⟨pfN 10 (e + 1), ⟨_, FS.obj HX2.out (by omega), pf_rd (s2 := ps2) (s3 := ps3) R3 hok rfl rfl (k1.sel k2 k3 _) (k4.sel k5 k6 _)⟩, pf_dep pf_10 he, G2.then FS fun k hk h => by omega⟩
    · have oc : W2.cell? ⟨b2, 1, none⟩ = some (.string noTx) := HPR.out.s2.cell rfl
      go_wp2_with (fail)
      go_meet
      have R3 : PfR (W2.setCell ⟨b2, 1, none⟩ (.string ⟨#[113]⟩)) ⟨bd, bs, ba, bi, b2, bf, b3⟩ (eDc.flat [⟨bv, 0⟩]) (eSel.flat [pfS ⟨bd, bs, ba, bi, b2, bf, b3⟩ ⟨cd, cs, ca, ci, c2, cf, c3⟩ bx bT]) (eAr.flat pfA) (eFi.flat pfI) (eSel.flat [⟨true, ⟨#[113]⟩, bF, n1, n2, n3⟩]) (eFg.flat [pfF ⟨bd, bs, ba, bi, b2, bf, b3⟩ ⟨cd, cs, ca, ci, c2, cf, c3⟩ bF bT]) (eSel.flat [⟨false, noTx, ba_, n4, n5, n6⟩]) := HPR.out.set_s2 hne 1 (.string ⟨#[113]⟩)
      have FS : Frm (fun k => k = b2) W2 (W2.setCell ⟨b2, 1, none⟩ (.string ⟨#[113]⟩)) := Frm.setCell W2 _ _ rfl
      exact ⟨pfN 11 1, ⟨_, FS.obj HX2.out (by omega), pf_rd (s2 := (.mk true ⟨#[113]⟩ bF [] [] [])) (s3 := ps3) R3 hok rfl rfl (k1.sel k2 k3 _) (k4.sel k5 k6 _)⟩, pf_at (j := 11) (by decide) (by decide), G2.then FS fun k hk h => by omega⟩
    · have oc : W2.cell? ⟨b2, 3, none⟩ = some (.slice n1.p n1.n n1.c) := HPR.out.s2.cell rfl
      go_wp2_with (fail)
      go_meet
      have FS : Frm (fun k => k = b2) W2 (W2.setCell ⟨b2, 3, none⟩ (.slice (some ⟨W2.heap.size, 0, none⟩) 1 1)) := Frm.setCell _ _ _ rfl
      have FA : Frm No (W2.setCell ⟨b2, 3, none⟩ (.slice (some ⟨W2.heap.size, 0, none⟩) 1 1)) ((W2.setCell ⟨b2, 3, none⟩ (.slice (some ⟨W2.heap.size, 0, none⟩) 1 1)).alloc (.cells #[.string ba_, .int .i64 0, .int .i64 0, .string noTx] 57 (0, 0))) := (Frm.refl No _).al _
      have NB2 : ((W2.setCell ⟨b2, 3, none⟩ (.slice (some ⟨W2.heap.size, 0, none⟩) 1 1)).alloc (.cells #[.string ba_, .int .i64 0, .int .i64 0, .string noTx] 57 (0, 0))).heap[W2.heap.size]? = some (.cells #[.string ba_, .int .i64 0, .int .i64 0, .string noTx] 57 (0, 0)) := by
        have := heap_alloc_new (W2.setCell ⟨b2, 3, none⟩ (.slice (some ⟨W2.heap.size, 0, none⟩) 1 1)) (.cells #[.string ba_, .int .i64 0, .int .i64 0, .string noTx] 57 (0, 0))
        rw [World.size_setCell] at this
        exact this
      have R3 : PfR ((W2.setCell ⟨b2, 3, none⟩ (.slice (some ⟨W2.heap.size, 0, none⟩) 1 1)).alloc (.cells #[.string ba_, .int .i64 0, .int .i64 0, .string noTx] 57 (0, 0))) ⟨bd, bs, ba, bi, b2, bf, b3⟩ (eDc.flat [⟨bv, 0⟩]) (eSel.flat [pfS ⟨bd, bs, ba, bi, b2, bf, b3⟩ ⟨cd, cs, ca, ci, c2, cf, c3⟩ bx bT]) (eAr.flat pfA) (eFi.flat pfI) (eSel.flat [⟨true, noTx, bF, onesh W2.heap.size, n2, n3⟩]) (eFg.flat [pfF ⟨bd, bs, ba, bi, b2, bf, b3⟩ ⟨cd, cs, ca, ci, c2, cf, c3⟩ bF bT]) (eSel.flat [⟨false, noTx, ba_, n4, n5, n6⟩]) := (HPR.out.set_s2 hne 3 (.slice (some ⟨W2.heap.size, 0, none⟩) 1 1)).frm FA
      have h2 : RdSel ((W2.setCell ⟨b2, 3, none⟩ (.slice (some ⟨W2.heap.size, 0, none⟩) 1 1)).alloc (.cells #[.string ba_, .int .i64 0, .int .i64 0, .string noTx] 57 (0, 0))) (fun _ => True) ⟨true, noTx, bF, onesh W2.heap.size, n2, n3⟩ (.mk true noTx bF [⟨ba_, ⟨0, 0, noTx⟩⟩] [] []) := by
        unfold RdSel
        exact ⟨⟨rfl, rfl, rfl⟩, rdB_one eAr _ NB2 rfl, k2.rdB _ _, [], k3.rdB _ _, rdAll_no _⟩
      exact ⟨pfN 12 1, ⟨_, FA.obj (FS.obj HX2.out (by show ¬ w1.heap.size = b2; omega)) id, pf_rd (s3 := ps3) R3 hok rfl rfl h2 (k4.sel k5 k6 _)⟩, pf_at (j := 12) (by decide) (by decide), (G2.then FS fun k hk h => by omega).trans FA⟩
    · have oc : W2.cell? ⟨b2, 5, none⟩ = some (.slice n3.p n3.n n3.c) := HPR.out.s2.cell rfl
      go_wp2_with (fail)
      go_meet
      have FS : Frm (fun k => k = b2) W2 (W2.setCell ⟨b2, 5, none⟩ (.slice (some ⟨W2.heap.size, 0, none⟩) 1 1)) := Frm.setCell _ _ _ rfl
      have FA : Frm No (W2.setCell ⟨b2, 5, none⟩ (.slice (some ⟨W2.heap.size, 0, none⟩) 1 1)) ((W2.setCell ⟨b2, 5, none⟩ (.slice (some ⟨W2.heap.size, 0, none⟩) 1 1)).alloc (.cells #[.bool false, .string noTx, .string ba_, .slice none 0 0, .slice none 0 0, .slice none 0 0] 51 (0, 0))) := (Frm.refl No _).al _
      have NB2 : ((W2.setCell ⟨b2, 5, none⟩ (.slice (some ⟨W2.heap.size, 0, none⟩) 1 1)).alloc (.cells #[.bool false, .string noTx, .string ba_, .slice none 0 0, .slice none 0 0, .slice none 0 0] 51 (0, 0))).heap[W2.heap.size]? = some (.cells #[.bool false, .string noTx, .string ba_, .slice none 0 0, .slice none 0 0, .slice none 0 0] 51 (0, 0)) := by
        have := heap_alloc_new (W2.setCell ⟨b2, 5, none⟩ (.slice (some ⟨W2.heap.size, 0, none⟩) 1 1)) (.cells #[.bool false, .string noTx, .string ba_, .slice none 0 0, .slice none 0 0, .slice none 0 0] 51 (0, 0))
        rw [World.size_setCell] at this
        exact this
      have R3 : PfR ((W2.setCell ⟨b2, 5, none⟩ (.slice (some ⟨W2.heap.size, 0, none⟩) 1 1)).alloc (.cells #[.bool false, .string noTx, .string ba_, .slice none 0 0, .slice none 0 0, .slice none 0 0] 51 (0, 0))) ⟨bd, bs, ba, bi, b2, bf, b3⟩ (eDc.flat [⟨bv, 0⟩]) (eSel.flat [pfS ⟨bd, bs, ba, bi, b2, bf, b3⟩ ⟨cd, cs, ca, ci, c2, cf, c3⟩ bx bT]) (eAr.flat pfA) (eFi.flat pfI) (eSel.flat [⟨true, noTx, bF, n1, n2, onesh W2.heap.size⟩]) (eFg.flat [pfF ⟨bd, bs, ba, bi, b2, bf, b3⟩ ⟨cd, cs, ca, ci, c2, cf, c3⟩ bF bT]) (eSel.flat [⟨false, noTx, ba_, n4, n5, n6⟩]) := (HPR.out.set_s2 hne 5 (.slice (some ⟨W2.heap.size, 0, none⟩) 1 1)).frm FA
      have h2 : RdSel ((W2.setCell ⟨b2, 5, none⟩ (.slice (some ⟨W2.heap.size, 0, none⟩) 1 1)).alloc (.cells #[.bool false, .string noTx, .string ba_, .slice none 0 0, .slice none 0 0, .slice none 0 0] 51 (0, 0))) (fun _ => True) ⟨true, noTx, bF, n1, n2, onesh W2.heap.size⟩ (.mk true noTx bF [] [] [.mk false noTx ba_ [] [] []]) := by
        have hin : RdSel ((W2.setCell ⟨b2, 5, none⟩ (.slice (some ⟨W2.heap.size, 0, none⟩) 1 1)).alloc (.cells #[.bool false, .string noTx, .string ba_, .slice none 0 0, .slice none 0 0, .slice none 0 0] 51 (0, 0))) (fun _ => True) ⟨false, noTx, ba_, nsh, nsh, nsh⟩ (.mk false noTx ba_ [] [] []) := by
          unfold RdSel
          exact ⟨⟨rfl, rfl, rfl⟩, rdB_no _ _, rdB_no _ _, [], rdB_no _ _, rdAll_no _⟩
        unfold RdSel
        exact ⟨⟨rfl, rfl, rfl⟩, k1.rdB _ _, k2.rdB _ _, _, rdB_one eSel _ NB2 rfl, rdAll_one hin⟩
      exact ⟨pfN 13 1, ⟨_, FA.obj (FS.obj HX2.out (by show ¬ w1.heap.size = b2; omega)) id, pf_rd (s3 := ps3) R3 hok rfl rfl h2 (k4.sel k5 k6 _)⟩, pf_at (j := 13) (by decide) (by decide), (G2.then FS fun k hk h => by omega).trans FA⟩
    · have oc : W2.cell? ⟨bf, 0, none⟩ = some (.string bF) := HPR.out.f.cell rfl
      go_wp2_with (fail)
      go_meet
      have R3 : PfR (W2.setCell ⟨bf, 0, none⟩ (.string noTx)) ⟨bd, bs, ba, bi, b2, bf, b3⟩ (eDc.flat [⟨bv, 0⟩]) (eSel.flat [pfS ⟨bd, bs, ba, bi, b2, bf, b3⟩ ⟨cd, cs, ca, ci, c2, cf, c3⟩ bx bT]) (eAr.flat pfA) (eFi.flat pfI) (eSel.flat [⟨true, noTx, bF, n1, n2, n3⟩]) (eFg.flat [pfF ⟨bd, bs, ba, bi, b2, bf, b3⟩ ⟨cd, cs, ca, ci, c2, cf, c3⟩ noTx bT]) (eSel.flat [⟨false, noTx, ba_, n4, n5, n6⟩]) := HPR.out.set_f hne 0 (.string noTx)
      have FS : Frm (fun k => k = bf) W2 (W2.setCell ⟨bf, 0, none⟩ (.string noTx)) := Frm.setCell W2 _ _ rfl
      exact ⟨pfN 14 1, ⟨_, FS.obj HX2.out (by omega), pf_rd (s2 := ps2) (s3 := ps3) R3 hok rfl rfl (k1.sel k2 k3 _) (k4.sel k5 k6 _)⟩, pf_at (j := 14) (by decide) (by decide), G2.then FS fun k hk h => by omega⟩
    · have oc : W2.cell? ⟨bf, 1, none⟩ = some (.string bT) := HPR.out.f.cell rfl
      go_wp2_with (fail)
      go_meet
      have R3 : PfR (W2.setCell ⟨bf, 1, none⟩ (.string ⟨#[49]⟩)) ⟨bd, bs, ba, bi, b2, bf, b3⟩ (eDc.flat [⟨bv, 0⟩]) (eSel.flat [pfS ⟨bd, bs, ba, bi, b2, bf, b3⟩ ⟨cd, cs, ca, ci, c2, cf, c3⟩ bx bT]) (eAr.flat pfA) (eFi.flat pfI) (eSel.flat [⟨true, noTx, bF, n1, n2, n3⟩]) (eFg.flat [pfF ⟨bd, bs, ba, bi, b2, bf, b3⟩ ⟨cd, cs, ca, ci, c2, cf, c3⟩ bF ⟨#[49]⟩]) (eSel.flat [⟨false, noTx, ba_, n4, n5, n6⟩]) := HPR.out.set_f hne 1 (.string ⟨#[49]⟩)
      have FS : Frm (fun k => k = bf) W2 (W2.setCell ⟨bf, 1, none⟩ (.string ⟨#[49]⟩)) := Frm.setCell W2 _ _ rfl
      exact ⟨pfN 15 1, ⟨_, FS.obj HX2.out (by omega), pf_rd (s2 := ps2) (s3 := ps3) R3 hok rfl rfl (k1.sel k2 k3 _) (k4.sel k5 k6 _)⟩, pf_at (j := 15) (by decide) (by decide), G2.then FS fun k hk h => by omega⟩
    · have oc : W2.cell? ⟨bf, 2, none⟩ = some (.slice (some ⟨b3, 0, none⟩) 1 c3) := HPR.out.f.cell rfl
      go_wp2_with (fail)
      go_meet
      have FS : Frm (fun k => k = bf) W2 (W2.setCell ⟨bf, 2, none⟩ (.slice none 0 0)) := Frm.setCell W2 _ _ rfl
      have R3 : PfR (W2.setCell ⟨bf, 2, none⟩ (.slice none 0 0)) ⟨bd, bs, ba, bi, b2, bf, b3⟩ (eDc.flat [⟨bv, 0⟩]) (eSel.flat [pfS ⟨bd, bs, ba, bi, b2, bf, b3⟩ ⟨cd, cs, ca, ci, c2, cf, c3⟩ bx bT]) (eAr.flat pfA) (eFi.flat pfI) (eSel.flat [⟨true, noTx, bF, n1, n2, n3⟩]) (eFg.flat [⟨bF, bT, nsh⟩]) (eSel.flat [⟨false, noTx, ba_, n4, n5, n6⟩]) := HPR.out.set_f hne 2 (.slice none 0 0)
      have hsel : RdSel (W2.setCell ⟨bf, 2, none⟩ (.slice none 0 0)) (fun _ => True) (pfS ⟨bd, bs, ba, bi, b2, bf, b3⟩ ⟨cd, cs, ca, ci, c2, cf, c3⟩ bx bT) (.mk false bx bT pfA pfI [ps2]) := by
        unfold RdSel pfS
        exact ⟨⟨rfl, rfl, rfl⟩, R3.a.rdB hok.a.1 hok.a.2 rfl (Nat.zero_lt_succ _), R3.i.rdB hok.i.1 hok.i.2 rfl (Nat.zero_lt_succ _), _, R3.s2.rdB (xs := [(⟨true, noTx, bF, n1, n2, n3⟩ : SelC)]) hok.s2.1 hok.s2.2 rfl (Nat.zero_lt_succ _), rdAll_one (k1.sel k2 k3 _)⟩
      exact ⟨pfN 16 1, ⟨_, FS.obj HX2.out (by omega), ⟨rfl, R3.d.rdB (xs := [(⟨bv, 0⟩ : Dc)]) hok.d.1 hok.d.2 rfl (Nat.zero_lt_succ _), ⟨_, R3.s.rdB (xs := [pfS ⟨bd, bs, ba, bi, b2, bf, b3⟩ ⟨cd, cs, ca, ci, c2, cf, c3⟩ bx bT]) hok.s.1 hok.s.2 rfl (Nat.zero_lt_succ _), rdAll_one hsel⟩, _, R3.f.rdB (xs := [(⟨bF, bT, nsh⟩ : FgC)]) hok.f.1 hok.f.2 rfl (Nat.zero_lt_succ _), _, [], rfl, ⟨rfl, rfl⟩, ⟨[], rdB_no _ _, rdAll_no _⟩, rfl⟩⟩, pf_at (j := 16) (by decide) (by decide), G2.then FS fun k hk h => by omega⟩
    · have oc : W2.cell? ⟨bd, 1, none⟩ = some (.int .i64 0) := HPR.out.d.cell rfl
      go_wp2_with (fail)
      go_meet
      rw [show (2 + (1 + (e : Int))) = 2 + ((e + 1 : Nat) : Int) from by omega]
      have R3 : PfR (W2.setCell ⟨bd, 1, none⟩ (.int .i64 (2 + ((e + 1 : Nat) : Int)))) ⟨bd, bs, ba, bi, b2, bf, b3⟩ (eDc.flat [⟨bv, 2 + ((e + 1 : Nat) : Int)⟩]) (eSel.flat [pfS ⟨bd, bs, ba, bi, b2, bf, b3⟩ ⟨cd, cs, ca, ci, c2, cf, c3⟩ bx bT]) (eAr.flat pfA) (eFi.flat pfI) (eSel.flat [⟨true, noTx, bF, n1, n2, n3⟩]) (eFg.flat [pfF ⟨bd, bs, ba, bi, b2, bf, b3⟩ ⟨cd, cs, ca, ci, c2, cf, c3⟩ bF bT]) (eSel.flat [⟨false, noTx, ba_, n4, n5, n6⟩]) := HPR.out.set_d hne 1 (.int .i64 (2 + ((e + 1 : Nat) : Int)))
      have FS : Frm (fun k => k = bd) W2 (W2.setCell ⟨bd, 1, none⟩ (.int .i64 (2 + ((e + 1 : Nat) : Int)))) := Frm.setCell W2 _ _ rfl
      exact ⟨pfN 17 (e + 1), ⟨_, FS.obj HX2.out (by omega), pf_rd (s2 := ps2) (s3 := ps3) R3 hok rfl rfl (k1.sel k2 k3 _) (k4.sel k5 k6 _)⟩, pf_dep pf_17 he, G2.then FS fun k hk h => by omega⟩
    · have oc : W2.cell? ⟨bd, 0, none⟩ = some (.string bv) := HPR.out.d.cell rfl
      go_wp2_with (fail)
      go_meet
      have R3 : PfR (W2.setCell ⟨bd, 0, none⟩ (.string noTx)) ⟨bd, bs, ba, bi, b2, bf, b3⟩ (eDc.flat [⟨noTx, 0⟩]) (eSel.flat [pfS ⟨bd, bs, ba, bi, b2, bf, b3⟩ ⟨cd, cs, ca, ci, c2, cf, c3⟩ bx bT]) (eAr.flat pfA) (eFi.flat pfI) (eSel.flat [⟨true, noTx, bF, n1, n2, n3⟩]) (eFg.flat [pfF ⟨bd, bs, ba, bi, b2, bf, b3⟩ ⟨cd, cs, ca, ci, c2, cf, c3⟩ bF bT]) (eSel.flat [⟨false, noTx, ba_, n4, n5, n6⟩]) := HPR.out.set_d hne 0 (.string noTx)
      have FS : Frm (fun k => k = bd) W2 (W2.setCell ⟨bd, 0, none⟩ (.string noTx)) := Frm.setCell W2 _ _ rfl
      exact ⟨pfN 18 1, ⟨_, FS.obj HX2.out (by omega), pf_rd (s2 := ps2) (s3 := ps3) R3 hok rfl rfl (k1.sel k2 k3 _) (k4.sel k5 k6 _)⟩, pf_at (j := 18) (by decide) (by decide), G2.then FS fun k hk h => by omega⟩
  case rest =>
    obtain ⟨D, ⟨v, hb, hrd⟩, hno, G3⟩ := hcut
    have hsz := lt_of_block hb
    have H3 := print_ok (hrd.mono (G := fun k => k < wc.heap.size) fun k hk _ => hk) (fun k hk => hk) hno.i (ht.frm G3) (fun _ => hno.len)
    have p0 := obj_cell hb 0
    have p1 := obj_cell hb 1
    have p2 := obj_cell hb 2
    have p3 := obj_cell hb 3
    simp only [List.getElem?_toArray, List.getElem?_cons_succ, List.getElem?_cons_zero] at p0 p1 p2 p3
    unfold dval at H3
    have HNO := Lib.hid hno
    clear hrd hb hno d1 d2 d3 s3 s4 s5 zd ldb ltb zbs zba zbi zb2 zbf zbd lbs lba lbi lb2 lbf lbd HX2 HPR G2 hlt2
    go_wp2_with (fail)
    refine H3.mono ?_
    rintro e3 w3 ⟨t, er, rfl, hP, f3⟩
    obtain ⟨rfl, rfl⟩ := noT_is HNO.out hP
    have hem : noTx.toList.isEmpty = true := by rw [emp_eq]; rfl
    clear H3 hP p0 p1 p2 p3
    go_wp2_with (go_at_call 15; refine (num_ok _ _).mono ?_; rintro e w' ⟨rfl, rfl⟩)
    rw [HQ.out]
    exact ⟨rfl, G3.trans f3⟩
end Go.Proofs.YthaegncocdddfaaGreatDoor

/- The walk of PrintForms, as its row wants it. -/
namespace Go.Proofs.YthaegncocdddfaaGreatDoor
set_option linter.unusedVariables false
set_option linter.unusedSimpArgs false
open Go.RowKit Go.Lib Go.Tt
theorem pforms_row (W : World) (ht : Tab W) (n : Int) (_ : (Lit.int .i64 n).wf = true) (x : Int) (_ : (Lit.int .i64 x).wf = true) : Calls Tryz.prog 7 #[.int .i64 n, .int .i64 x] W fun e W' => e = .returned (.bool true) ∧ Below W.heap.size W W' :=
  (pforms_law n x W ht).mono fun _ _ h => ⟨h.1, h.2.below (fun _ _ h => h) (Nat.le_refl _)⟩
end Go.Proofs.YthaegncocdddfaaGreatDoor

/- The card of tattlelaw15.PrintForms. -/
namespace Go.Proofs.YthaegncocdddfaaGreatDoor.printForms
set_option linter.unusedVariables false
set_option linter.unusedSimpArgs false
open Go.ChangeShapes Go.WideShapes Go.ChangeAt Go.RowKit Go.Tt
open Go.ChangeMaps (open_string shut_string)
set_option linter.unusedVariables false
set_option maxRecDepth 100000 in
theorem contract (H : Type) (enc : TypeId × Value → H) (W : World) (base : Nat) (args : Array Value) (ds gs : List (DataW H)) (before : List MemPlace)
    (hval0 : ∀ (j : Nat) t v, Tryz.f7.params[j]? = some t → args[j]? = some v → Value.okWide Tryz.prog W .any base t v)
    (hW : DataW.Whole enc Tryz.prog Tryz.f7.params.toList Rows.printFormsSpec.vars false W args.toList ds gs before)
    (hsz0 : (DataW.weightsEach Tryz.prog (Tryz.f7.params.toList ++ Rows.printFormsSpec.plain.varTypes Tryz.prog) (ds ++ gs)).all (· ≤ reachBytes) = true)
    (hL : laidMetH Tryz.prog tabs W) :
    Calls Tryz.prog 7 args W fun e W' => ∃ v, e = .returned v ∧ Rows.printFormsSpec.post enc Tryz.prog Tryz.f7 false true false false W args v W' := by
  have hval : ∀ (j : Nat) t v, Tryz.f7.params[j]? = some t → args[j]? = some v → Value.okWide Tryz.prog W .any base t v := hval0
  have hW' := hW
  obtain ⟨p, q, hA0, hV, rfl, hfz, hnd⟩ := hW
  have hA : DataW.TrodAll enc Tryz.prog W 0 (fun _ => true) true Tryz.f7.params.toList args.toList ds p := hA0
  rw [Tryz.params7] at hA hval
  have hB := hA
  obtain ⟨v0, vs0, d0, ds0, p0, q0, hargs, rfl, rfl, h0, r0⟩ := trodAll_cons hA
  obtain ⟨v1, vs1, d1, ds1, p1, q1, rfl, rfl, rfl, h1, r1⟩ := trodAll_cons r0
  obtain ⟨rfl, rfl, rfl⟩ := trodAll_nil r1
  obtain rfl : args = #[v0, v1] := by cases args; simp_all
  obtain ⟨rfl, rfl⟩ := trodVars_none hV
  obtain ⟨a0, rfl, e0, _, w0⟩ := open_int Tryz.underlying3 (hval 0 3 v0 rfl rfl) h0
  obtain ⟨a1, rfl, e1, _, w1⟩ := open_int Tryz.underlying3 (hval 1 3 v1 rfl rfl) h1
  refine (pforms_row W (table hL) a0 w0 a1 w1).mono fun e W' ⟨he, bel⟩ => ?_
  subst he
  exact ⟨_, rfl, _, _, _, [], _, [], hW', trodAll_mk1 (shut_bool Tryz.underlying4 _), below_trodAll laidOut bel (by kernel_rfl) hB (trodAll_lt hB), rfl, bel.frame _, fun h => by cases h⟩
theorem laid_met (os : Os) : laidMet Tryz.prog Rows.printFormsRow.laid ((laidWorld os).forCall (fun _ _ => 0) ⟨#[], #[.int .i64 0, .int .i64 0], []⟩).memory :=
  laidMet_of_run' 8 (by kernel_rfl) (by kernel_rfl)
noncomputable def rdW (os : Os) {H : Type} (enc : TypeId × Value → H) : Option (List (DataW H) × List (DataW H) × List MemPlace) := DataW.whole enc Tryz.prog ((laidWorld os).forCall (fun _ _ => 0) ⟨#[], #[.int .i64 0, .int .i64 0], []⟩).memory Tryz.f7.params.toList Rows.printFormsSpec.vars false (#[.int .i64 0, .int .i64 0] : Array Value).toList 8
theorem rdW_some (os : Os) {H : Type} (enc : TypeId × Value → H) : (rdW os enc).isSome = true := by kernel_rfl
theorem reads (os : Os) {H : Type} (enc : TypeId × Value → H) : rdW os enc = some (((rdW os enc).get (rdW_some os enc)).1, ((rdW os enc).get (rdW_some os enc)).2.1, ((rdW os enc).get (rdW_some os enc)).2.2) := get_parts (rdW os enc) (rdW_some os enc)
set_option maxRecDepth 100000 in
theorem lifted (os : Os) (started : os.Started) (H : Type) (enc : TypeId × Value → H) (G : Stop.Interp) :
    ReturnsInHanded {} Tryz.checked os 7 .any ((OpenSpec.ofChange Rows.printFormsSpec).preRow enc Tryz.prog Tryz.f7 Rows.printFormsRow.domain false Rows.printFormsRow.laid) (((OpenSpec.ofChange Rows.printFormsSpec).at G).post enc Tryz.prog Tryz.f7 false true false false) := by
  have hx := reads os enc
  refine returnsInHanded_of_row (C := Tryz.checked) (s := OpenSpec.ofChange Rows.printFormsSpec) own started (by kernel_rfl) Tryz.func7
    (witness_row_at (enc := enc) (C := Tryz.checked) false (laidWorld os) #[.int .i64 0, .int .i64 0] rfl (by kernel_rfl) (by kernel_rfl) (by kernel_rfl) (OpenSpec.preRow_of_cond 8 hx (by kernel_rfl) (fun k hk => by cases hk) (by kernel_rfl) (laid_met os))) ?_
  intro W base args ds gs before hval hW _ hcond hsz hL _ _
  exact contract H enc W base args ds gs before hval hW hsz hL
theorem said : Rows.PrintFormsSaid :=
  OpenClaim.holds_of_cond 7 Tryz.f7 rfl rfl rfl rfl rfl rfl rfl ⟨rfl, rfl, rfl, rfl, rfl⟩ rfl rfl rfl rfl rfl (by kernel_rfl) Tryz.func7 (by kernel_rfl)
    (of_decide_eq_true (by kernel_rfl)) (by unfold Func.isWrapper; first | (rw [if_pos (by decide +kernel)]; kernel_rfl) | (rw [if_neg (by decide +kernel)]; exact ⟨rfl, rfl⟩))
    (fun os started H enc _ G => by rw [OpenClaim.pre_eq_preRow]; exact lifted os started H enc G)
theorem plain (f : FuncId) (fn : Func) (hf : Tryz.pinned.checked.prog.funcNamed "tattle/tattlelaw15.PrintForms" = some f) (hfn : Tryz.pinned.checked.prog.funcs[f]? = some fn) :
    true = Tryz.pinned.checked.prog.looks [] ∧ ∀ (j : Nat) t, fn.params[j]? = some t → Tryz.pinned.checked.prog.wantsStandIn t = false := by
  obtain rfl : f = 7 := Option.some.inj ((show Tryz.prog.funcNamed "tattle/tattlelaw15.PrintForms" = some 7 by kernel_rfl).symm.trans hf) |>.symm
  obtain rfl : fn = Tryz.f7 := (Option.some.inj (Tryz.func7.symm.trans hfn)).symm
  refine ⟨by kernel_rfl, fun j t ht => ?_⟩
  rw [Tryz.params7] at ht
  have ht := Array.mem_of_getElem? ht
  simp only [List.mem_toArray, List.mem_cons, List.not_mem_nil, or_false] at ht
  rcases ht with rfl | rfl
  · exact (show Tryz.prog.wantsStandIn 3 = false by kernel_rfl)
  · exact (show Tryz.prog.wantsStandIn 3 = false by kernel_rfl)
theorem card : Rows.PrintFormsCardSaid :=
  Claim7.holds_tied_plain_at .later [] _ _ _ _ said (fun _ h => by cases h) (by kernel_rfl) (fun _ h => by cases h) printForms_row_tie rfl ⟨rfl, rfl⟩ (by kernel_rfl) rfl plain (by kernel_rfl)
end Go.Proofs.YthaegncocdddfaaGreatDoor.printForms
namespace Go.Proofs.YthaegncocdddfaaGreatDoor
set_option linter.unusedVariables false
set_option linter.unusedSimpArgs false
/-- The card, under a short name, for the claim. -/
theorem printForms_holds : Rows.PrintFormsCardSaid := printForms.card
#print axioms printForms_holds
end Go.Proofs.YthaegncocdddfaaGreatDoor

/- Merged: DocL DocM DocP. -/
import Derived.Lib.Atoi
import Derived.Lib.ItoaNum
import Derived.Test.YthaegncocdddfaaGreatDoorK02
/- Documents in plain words: tokens, a parser's steps, a printer's: what package lex and package doc compute. No program in sight. -/
namespace Go.Tt
set_option linter.unusedVariables false
set_option linter.unusedSimpArgs false
set_option linter.unusedVariables false
set_option linter.unusedSimpArgs false
open Go.RowKit Go.Lib
/-! ## Data -/
structure Tk where
  kind : Int
  text : ByteArray
  int : Int
  pos : Int
structure Vl where
  kind : Int
  int : Int
  text : ByteArray
deriving DecidableEq
structure Ar where
  name : ByteArray
  val : Vl
deriving DecidableEq
structure Fi where
  skip : Bool
  val : Vl
deriving DecidableEq
structure Dc where
  name : ByteArray
  kind : Int
deriving DecidableEq
inductive Sl where
  | mk (sp : Bool) (al nm : ByteArray) (args : List Ar) (ifs : List Fi) (sels : List Sl) : Sl
structure Fg where
  name : ByteArray
  on : ByteArray
  sels : List Sl
structure Dm where
  mutn : Bool
  decls : List Dc
  sels : List Sl
  frags : List Fg
def Sl.sp : Sl → Bool | .mk a _ _ _ _ _ => a
def Sl.al : Sl → ByteArray | .mk _ a _ _ _ _ => a
def Sl.nm : Sl → ByteArray | .mk _ _ a _ _ _ => a
def Sl.args : Sl → List Ar | .mk _ _ _ a _ _ => a
def Sl.ifs : Sl → List Fi | .mk _ _ _ _ a _ => a
def Sl.sels : Sl → List Sl | .mk _ _ _ _ _ a => a
/-- Bytes, compared. -/
def eqB (a b : ByteArray) : Bool := a.data.toList == b.data.toList
theorem eqB_iff {a b : ByteArray} : eqB a b = true ↔ a = b := by
  unfold eqB
  rw [beq_iff_eq, Array.toList_inj]
  exact ⟨fun h => ByteArray.ext h, fun h => h ▸ rfl⟩
def noTx : ByteArray := ⟨#[]⟩
/-! ## The lexer -/
def fiB (c : UInt8) : Bool := (Nat.ble 97 c.toNat && Nat.ble c.toNat 122) || (Nat.ble 65 c.toNat && Nat.ble c.toNat 90) || c.toNat == 95
def dgB (c : UInt8) : Bool := Nat.ble 48 c.toNat && Nat.ble c.toNat 57
def wdB (c : UInt8) : Bool := fiB c || dgB c
def blB (c : UInt8) : Bool := c.toNat == 9 || c.toNat == 10 || c.toNat == 13 || c.toNat == 32 || c.toNat == 44
def mkB (c : UInt8) : Bool := c.toNat == 123 || c.toNat == 125 || c.toNat == 40 || c.toNat == 41 || c.toNat == 58 || c.toNat == 36 || c.toNat == 64
/-- A text behind its quote: what it says, what is left. -/
def txL : List UInt8 → List UInt8 → Option (List UInt8 × List UInt8)
  | [], _ => none
  | c :: r, acc =>
    if c.toNat == 10 || Nat.ble 257 acc.length then none
    else if c.toNat == 34 then some (acc, r)
    else if c.toNat == 92 then
      match r with
      | [] => none
      | d :: r' =>
        if d.toNat == 34 || d.toNat == 92 then txL r' (acc ++ [d])
        else if d.toNat == 110 then txL r' (acc ++ [10])
        else none
    else txL r (acc ++ [c])
/-- A number's digits. -/
def nuL (neg : Bool) (r : List UInt8) : Int ⊕ (Tk × Nat) :=
  let ds := r.takeWhile dgB
  if ds.length == 0 || Nat.ble 16 ds.length || (((r.drop ds.length).head?).map wdB).getD false then .inl 1300
  else .inr (⟨1, noTx, (Lib.atoi ((if neg then [45] else []) ++ ds)).getD 0, 0⟩, ds.length + if neg then 1 else 0)
/-- One token, and its length; or an error. -/
def tokL : List UInt8 → Int ⊕ (Tk × Nat)
  | [] => .inl 1300
  | c :: r =>
    if fiB c then
      let k := ((c :: r).takeWhile wdB)
      if Nat.ble k.length 32 then .inr (⟨0, ⟨k.toArray⟩, 0, 0⟩, k.length) else .inl 1300
    else if c.toNat == 45 then nuL true r
    else if dgB c then nuL false (c :: r)
    else if c.toNat == 34 then
      match txL r [] with
      | none => .inl 1301
      | some (x, r') => .inr (⟨2, ⟨x.toArray⟩, 0, 0⟩, (c :: r).length - r'.length)
    else if mkB c then .inr (⟨3, ⟨#[c]⟩, 0, 0⟩, 1)
    else if (c :: r).take 3 == [46, 46, 46] then .inr (⟨3, ⟨#[46, 46, 46]⟩, 0, 0⟩, 3)
    else .inl 1300
/-- All tokens; or the error of the first that is none. -/
def lexL : Nat → List UInt8 → Nat → List Tk → Int ⊕ List Tk
  | 0, _, _, out => .inr out
  | _ + 1, [], _, out => .inr out
  | n + 1, c :: r, at_, out =>
    if blB c then lexL n r (at_ + 1) out
    else if c.toNat == 35 then
      let k := (r.takeWhile fun c => !(c.toNat == 10)).length
      lexL n (r.drop k) (at_ + 1 + k) out
    else match tokL (c :: r) with
      | .inl e => .inl e
      | .inr (t, k) => lexL n ((c :: r).drop k) (at_ + k) (out ++ [{ t with pos := at_ }])
def tokensL (s : List UInt8) : Int ⊕ List Tk :=
  if Nat.ble 65537 s.length then .inl 1300
  else match lexL (s.length + 1) s 0 [] with
    | .inl e => .inl e
    | .inr ts => if Nat.ble 2049 ts.length then .inl 1302 else .inr ts
/-! ## The parser -/
structure PS where
  ts : List Tk
  bad : Bool
def noTk : Tk := ⟨-1, noTx, 0, 0⟩
def PS.peek (p : PS) : Tk := if p.bad then noTk else p.ts.headD noTk
def PS.mark (p : PS) (s : ByteArray) : Bool := decide (p.peek.kind = 3) && eqB p.peek.text s
def PS.word (p : PS) (s : ByteArray) : Bool := decide (p.peek.kind = 0) && eqB p.peek.text s
def PS.adv (p : PS) : PS := if p.peek.kind < 0 then ⟨p.ts, true⟩ else ⟨p.ts.tail, p.bad⟩
def PS.want (p : PS) (s : ByteArray) : PS := ⟨p.adv.ts, p.adv.bad || !p.mark s⟩
def PS.nameT (p : PS) : ByteArray := p.peek.text
def PS.nameS (p : PS) : PS := ⟨p.adv.ts, p.adv.bad || !decide (p.peek.kind = 0)⟩
def PS.known (p : PS) (s : ByteArray) : PS := ⟨p.nameS.ts, !eqB p.nameT s || p.nameS.bad⟩
def mC (c : UInt8) : ByteArray := ⟨#[c]⟩
def PS.value (p : PS) : Vl × PS :=
  let t := p.peek
  if t.kind = 1 then (⟨0, t.int, noTx⟩, p.adv)
  else if t.kind = 2 then (⟨1, 0, t.text⟩, p.adv)
  else if t.kind = 0 ∧ eqB t.text ⟨#[116, 114, 117, 101]⟩ = true then (⟨2, 1, noTx⟩, p.adv)
  else if t.kind = 0 ∧ eqB t.text ⟨#[102, 97, 108, 115, 101]⟩ = true then (⟨2, 0, noTx⟩, p.adv)
  else if t.kind = 3 ∧ eqB t.text ⟨#[36]⟩ = true then (⟨3, 0, p.adv.nameT⟩, p.adv.nameS)
  else (⟨0, 0, noTx⟩, ⟨p.adv.ts, true⟩)
/-- What bounds the rounds: the tokens that are left. -/
def PS.m (p : PS) : Nat := if p.bad then 0 else p.ts.length
def arg1 (p : PS) : Ar × PS :=
  let v := (p.nameS.want (mC 58)).value
  (⟨p.nameT, v.1⟩, v.2)
def argsL : Nat → PS → List Ar → List Ar × PS
  | 0, p, acc => (acc, p)
  | n + 1, p, acc =>
    let a := arg1 p
    if !a.2.bad && !a.2.mark (mC 41) then argsL n a.2 (acc ++ [a.1]) else (acc ++ [a.1], a.2.want (mC 41))
def PS.args (p : PS) : List Ar × PS := if p.mark (mC 40) then argsL (p.adv.m + 1) p.adv [] else ([], p)
def tSkip : ByteArray := ⟨#[115, 107, 105, 112]⟩
def tIncl : ByteArray := ⟨#[105, 110, 99, 108, 117, 100, 101]⟩
def tIf : ByteArray := ⟨#[105, 102]⟩
def if1 (p : PS) : Fi × PS :=
  let n := p.adv.nameT
  let p2 : PS := ⟨p.adv.nameS.ts, p.adv.nameS.bad || (!eqB n tSkip && !eqB n tIncl)⟩
  let v := (((p2.want (mC 40)).known tIf).want (mC 58)).value
  (⟨eqB n tSkip, v.1⟩, v.2.want (mC 41))
def ifsL : Nat → PS → List Fi → List Fi × PS
  | 0, p, acc => (acc, p)
  | n + 1, p, acc => if p.mark (mC 64) then ifsL n (if1 p).2 (acc ++ [(if1 p).1]) else (acc, p)
def PS.ifs (p : PS) : List Fi × PS := ifsL (p.m + 1) p []
def tDots : ByteArray := ⟨#[46, 46, 46]⟩
/-- A selection's key and name. -/
def selH (p : PS) : ByteArray × ByteArray × PS :=
  if p.nameS.mark (mC 58) then (p.nameT, p.nameS.adv.nameT, p.nameS.adv.nameS) else (noTx, p.nameT, p.nameS)
/-- What stands behind it, its set read by f. -/
def selB (f : PS → List Sl × PS) (h : ByteArray × ByteArray × PS) : Sl × PS :=
  let a := h.2.2.args
  let i := a.2.ifs
  if i.2.mark (mC 123) then (.mk false h.1 h.2.1 a.1 i.1 (f i.2).1, (f i.2).2) else (.mk false h.1 h.2.1 a.1 i.1 [], i.2)
def sprL (p : PS) : Sl × PS := (.mk true noTx p.adv.nameT [] p.adv.nameS.ifs.1 [], p.adv.nameS.ifs.2)
/-- A selection. -/
def selL (f : PS → List Sl × PS) (p : PS) : Sl × PS := if p.mark tDots then sprL p else selB f (selH p)
def setGo (f : PS → Sl × PS) : Nat → PS → List Sl → List Sl × PS
  | 0, p, acc => (acc, p)
  | n + 1, p, acc => if !p.bad && !p.mark (mC 125) then setGo f n (f p).2 (acc ++ [(f p).1]) else (acc, p.want (mC 125))
def setL : Nat → PS → List Sl × PS
  | 0, p => ([], p)
  | n + 1, p =>
    let s := selL (setL n) (p.want (mC 123))
    setGo (selL (setL n)) (s.2.m + 2) s.2 [s.1]
def PS.set (p : PS) : List Sl × PS := setL (p.m + 1) p
def kindL (s : ByteArray) : Int × Bool :=
  if eqB s ⟨#[73, 110, 116]⟩ then (0, true) else if eqB s ⟨#[84, 101, 120, 116]⟩ then (1, true) else if eqB s ⟨#[66, 111, 111, 108]⟩ then (2, true) else (0, false)
def decl1 (p : PS) : Dc × PS :=
  let p1 := p.want (mC 36)
  let p2 := p1.nameS.want (mC 58)
  let k := kindL p2.nameT
  (⟨p1.nameT, k.1⟩, ⟨p2.nameS.ts, p2.nameS.bad || !k.2⟩)
def declsL : Nat → PS → List Dc → List Dc × PS
  | 0, p, acc => (acc, p)
  | n + 1, p, acc =>
    let d := decl1 p
    if !d.2.bad && !d.2.mark (mC 41) then declsL n d.2 (acc ++ [d.1]) else (acc ++ [d.1], d.2.want (mC 41))
def PS.decls (p : PS) : List Dc × PS := if p.mark (mC 40) then declsL (p.adv.m + 1) p.adv [] else ([], p)
def tFrag : ByteArray := ⟨#[102, 114, 97, 103, 109, 101, 110, 116]⟩
def tQuery : ByteArray := ⟨#[113, 117, 101, 114, 121]⟩
def tMut : ByteArray := ⟨#[109, 117, 116, 97, 116, 105, 111, 110]⟩
def tOn : ByteArray := ⟨#[111, 110]⟩
def frag1 (p : PS) : Fg × PS :=
  let p1 := p.adv
  let p2 := p1.nameS.known tOn
  let s := p2.nameS.set
  (⟨p1.nameT, p2.nameT, s.1⟩, s.2)
/-- An operation with its word: whether it is a mutation, its declarations, its set. -/
def oper1 (p : PS) : Bool × List Dc × List Sl × PS :=
  let p1 := p.nameS
  let p2 := if decide (p1.peek.kind = 0) then p1.adv else p1
  let d := p2.decls
  let s := d.2.set
  (eqB p.nameT tMut, d.1, s.1, s.2)
def allL : Nat → PS → Int → Dm → Dm × PS
  | 0, p, _, d => (d, p)
  | n + 1, p, k, d =>
    if p.bad || p.ts.length == 0 then (d, ⟨p.ts, p.bad || !decide (k = 1)⟩)
    else if p.word tFrag then
      let f := frag1 p
      allL n f.2 k ⟨d.mutn, d.decls, d.sels, d.frags ++ [f.1]⟩
    else if p.word tQuery || p.word tMut then
      let o := oper1 p
      allL n o.2.2.2 (k + 1) ⟨o.1, o.2.1, o.2.2.1, d.frags⟩
    else
      let s := p.set
      allL n s.2 (k + 1) ⟨d.mutn, d.decls, s.1, d.frags⟩
/-! ## How deep, how many -/
structure Tly where
  deep : Int
  sels : Int
  many : Bool
mutual
def cntS (deep : Int) : Sl → Tly → Tly
  | .mk _ _ _ args ifs sels, t =>
    let t1 : Tly := ⟨t.deep, t.sels + 1, t.many || decide (6 < args.length) || decide (2 < ifs.length)⟩
    match sels with
    | [] => t1
    | s :: ss => cntSs (deep + 1) ss (cntS (deep + 1) s ⟨max t1.deep (deep + 1), t1.sels, t1.many⟩)
def cntSs (deep : Int) : List Sl → Tly → Tly
  | [], t => t
  | s :: ss, t => cntSs deep ss (cntS deep s t)
end
/-- A set is counted. -/
def cnt (ss : List Sl) (deep : Int) (t : Tly) : Tly := cntSs deep ss ⟨max t.deep deep, t.sels, t.many⟩
def emDm : Dm := ⟨false, [], [], []⟩
def cntD (d : Dm) : Tly := d.frags.foldl (fun t f => cnt f.sels 1 t) (cnt d.sels 1 ⟨0, 0, false⟩)
/-- A document's text is read. -/
def parseL (s : List UInt8) : Dm × Int :=
  match tokensL s with
  | .inl e => (emDm, e)
  | .inr ts =>
    let r := allL (ts.length + 1) ⟨ts, false⟩ 0 emDm
    if r.2.bad then (emDm, 1500)
    else
      let t := cntD r.1
      if 4 < t.deep then (emDm, 1501)
      else if t.many || decide (64 < t.sels) || decide (8 < r.1.decls.length) || decide (8 < r.1.frags.length) then (emDm, 1502)
      else (r.1, 0)
end Go.Tt

/- The parser's steps take tokens: what bounds its rounds. No program in sight. -/
namespace Go.Tt
set_option linter.unusedVariables false
set_option linter.unusedSimpArgs false
open Go.RowKit Go.Lib
/-- q stands no further back than p. -/
def PS.le (q p : PS) : Prop := (p.bad = true → q.bad = true) ∧ (q.bad = false → q.m ≤ p.m)
/-- q stands behind p by a token at least, or is bad. -/
def PS.lt (q p : PS) : Prop := (p.bad = true → q.bad = true) ∧ (q.bad = false → q.m < p.m)
theorem PS.le_refl (p : PS) : p.le p := ⟨id, fun _ => Nat.le_refl _⟩
theorem nb {p q : PS} (h : p.bad = true → q.bad = true) (hq : q.bad = false) : p.bad = false := by
  cases hp : p.bad with
  | false => rfl
  | true => rw [h hp] at hq; cases hq
theorem PS.le.trans {p q r : PS} (h : r.le q) (k : q.le p) : r.le p := ⟨fun hp => h.1 (k.1 hp), fun hr => Nat.le_trans (h.2 hr) (k.2 (nb h.1 hr))⟩
theorem PS.lt.trans_le {p q r : PS} (h : r.lt q) (k : q.le p) : r.lt p := ⟨fun hp => h.1 (k.1 hp), fun hr => Nat.lt_of_lt_of_le (h.2 hr) (k.2 (nb h.1 hr))⟩
theorem PS.le.trans_lt {p q r : PS} (h : r.le q) (k : q.lt p) : r.lt p := ⟨fun hp => h.1 (k.1 hp), fun hr => Nat.lt_of_le_of_lt (h.2 hr) (k.2 (nb h.1 hr))⟩
theorem PS.lt.le {p q : PS} (h : q.lt p) : q.le p := ⟨h.1, fun hq => Nat.le_of_lt (h.2 hq)⟩
theorem PS.lt.trans {p q r : PS} (h : r.lt q) (k : q.lt p) : r.lt p := h.trans_le k.le
theorem m_bad {p : PS} (h : p.bad = true) : p.m = 0 := if_pos h
theorem m_le {p q : PS} (h : q.le p) : q.m ≤ p.m := by
  cases hq : q.bad with
  | true => rw [m_bad hq]; exact Nat.zero_le _
  | false => exact h.2 hq
theorem peek_bad {p : PS} (h : p.bad = true) : p.peek = noTk := if_pos h
theorem peek_nil {p : PS} (h : p.ts = []) : p.peek = noTk := by
  unfold PS.peek
  split
  · rfl
  · rw [h]; rfl
theorem peek_cons {p : PS} {t : Tk} {r : List Tk} (hb : p.bad = false) (h : p.ts = t :: r) : p.peek = t := by
  unfold PS.peek
  rw [if_neg (by rw [hb]; decide), h]
  rfl
theorem adv_bad {p : PS} (h : p.bad = true) : p.adv = ⟨p.ts, true⟩ := by
  unfold PS.adv
  rw [peek_bad h, if_pos (by decide)]
theorem adv_lt (p : PS) : p.adv.lt p := by
  refine ⟨fun h => by rw [adv_bad h], fun h => ?_⟩
  cases hb : p.bad with
  | true => rw [adv_bad hb] at h; cases h
  | false =>
    cases ht : p.ts with
    | nil => unfold PS.adv at h; rw [peek_nil ht, if_pos (by decide)] at h; cases h
    | cons t r =>
      unfold PS.adv at h ⊢
      rw [peek_cons hb ht] at h ⊢
      split at h
      · cases h
      · next hk =>
        rw [if_neg hk]
        unfold PS.m
        simp [hb, ht]
/-- Badness may be added. -/
theorem PS.le_bad (p : PS) (b : Bool) : PS.le ⟨p.ts, p.bad || b⟩ p := by
  refine ⟨fun h => by simp [h], fun h => ?_⟩
  have hb : p.bad = false := by
    cases hp : p.bad with
    | false => rfl
    | true => simp [hp] at h
  show PS.m ⟨p.ts, p.bad || b⟩ ≤ PS.m p
  unfold PS.m
  rw [hb] at h ⊢
  rw [h]
  simp
theorem want_lt (p : PS) (s : ByteArray) : (p.want s).lt p := (PS.le_bad p.adv (!p.mark s)).trans_lt (adv_lt p)
theorem nameS_lt (p : PS) : p.nameS.lt p := (PS.le_bad p.adv _).trans_lt (adv_lt p)
theorem known_lt (p : PS) (s : ByteArray) : (p.known s).lt p := by
  have := (PS.le_bad p.nameS (!eqB p.nameT s)).trans_lt (nameS_lt p)
  unfold PS.known
  rw [Bool.or_comm]
  exact this
theorem bad_lt (p q : PS) : PS.lt ⟨q.ts, true⟩ p := ⟨fun _ => rfl, fun h => by cases h⟩
theorem value_lt (p : PS) : p.value.2.lt p := by
  unfold PS.value
  simp only
  split
  · exact adv_lt p
  · split
    · exact adv_lt p
    · split
      · exact adv_lt p
      · split
        · exact adv_lt p
        · split
          · exact (nameS_lt _).trans (adv_lt p)
          · exact bad_lt _ _
theorem arg1_lt (p : PS) : (arg1 p).2.lt p := (value_lt _).trans ((want_lt _ _).trans (nameS_lt p))
theorem argsL_lt : ∀ (n : Nat) (p : PS) (acc : List Ar), (argsL n p acc).2.le p
  | 0, p, _ => p.le_refl
  | n + 1, p, acc => by
    unfold argsL
    simp only
    split
    · exact (argsL_lt n _ _).trans (arg1_lt p).le
    · exact ((want_lt _ _).trans (arg1_lt p)).le
theorem args_le (p : PS) : p.args.2.le p := by
  unfold PS.args
  split
  · exact (argsL_lt _ _ _).trans (adv_lt p).le
  · exact p.le_refl
theorem if1_lt (p : PS) : (if1 p).2.lt p := by
  unfold if1
  simp only
  exact (want_lt _ _).trans ((value_lt _).trans ((want_lt _ _).trans ((known_lt _ _).trans ((want_lt _ _).trans ((PS.le_bad p.adv.nameS _).trans_lt ((nameS_lt _).trans (adv_lt p)))))))
theorem ifsL_le : ∀ (n : Nat) (p : PS) (acc : List Fi), (ifsL n p acc).2.le p
  | 0, p, _ => p.le_refl
  | n + 1, p, acc => by
    unfold ifsL
    split
    · exact (ifsL_le n _ _).trans (if1_lt p).le
    · exact p.le_refl
theorem ifs_le (p : PS) : p.ifs.2.le p := ifsL_le _ _ _
theorem selH_lt (p : PS) : (selH p).2.2.lt p := by
  unfold selH
  split
  · exact (nameS_lt _).trans ((adv_lt _).trans (nameS_lt p))
  · exact nameS_lt p
theorem selB_le {f : PS → List Sl × PS} (hf : ∀ p, (f p).2.le p) (h : ByteArray × ByteArray × PS) : (selB f h).2.le h.2.2 := by
  unfold selB
  simp only
  split
  · exact (hf _).trans ((ifs_le _).trans (args_le _))
  · exact (ifs_le _).trans (args_le _)
theorem selL_lt {f : PS → List Sl × PS} (hf : ∀ p, (f p).2.le p) (p : PS) : (selL f p).2.lt p := by
  unfold selL
  split
  · exact (ifs_le _).trans_lt ((nameS_lt _).trans (adv_lt p))
  · exact (selB_le hf _).trans_lt (selH_lt p)
theorem setGo_le {f : PS → Sl × PS} (hf : ∀ p, (f p).2.le p) : ∀ (n : Nat) (p : PS) (acc : List Sl), (setGo f n p acc).2.le p
  | 0, p, _ => p.le_refl
  | n + 1, p, acc => by
    unfold setGo
    split
    · exact (setGo_le hf n _ _).trans (hf p)
    · exact (want_lt _ _).le
theorem setL_le : ∀ (n : Nat) (p : PS), (setL n p).2.le p
  | 0, p => p.le_refl
  | n + 1, p => by
    unfold setL
    simp only
    exact (setGo_le (fun q => (selL_lt (setL_le n) q).le) _ _ _).trans ((selL_lt (setL_le n) _).trans (want_lt _ _)).le
theorem setL_lt (n : Nat) (p : PS) : (setL (n + 1) p).2.lt p := by
  unfold setL
  simp only
  exact (setGo_le (fun q => (selL_lt (setL_le n) q).le) _ _ _).trans_lt ((selL_lt (setL_le n) _).trans (want_lt _ _))
theorem set_lt (p : PS) : p.set.2.lt p := setL_lt _ p
theorem decl1_lt (p : PS) : (decl1 p).2.lt p := by
  unfold decl1
  simp only
  exact (PS.le_bad (PS.nameS _) _).trans_lt ((nameS_lt _).trans ((want_lt _ _).trans ((nameS_lt _).trans (want_lt p _))))
theorem declsL_le : ∀ (n : Nat) (p : PS) (acc : List Dc), (declsL n p acc).2.le p
  | 0, p, _ => p.le_refl
  | n + 1, p, acc => by
    unfold declsL
    simp only
    split
    · exact (declsL_le n _ _).trans (decl1_lt p).le
    · exact ((want_lt _ _).trans (decl1_lt p)).le
theorem decls_le (p : PS) : p.decls.2.le p := by
  unfold PS.decls
  split
  · exact (declsL_le _ _ _).trans (adv_lt p).le
  · exact p.le_refl
theorem frag1_lt (p : PS) : (frag1 p).2.lt p := by
  unfold frag1
  simp only
  exact (set_lt _).trans ((nameS_lt _).trans ((known_lt _ _).trans ((nameS_lt _).trans (adv_lt p))))
theorem oper1_lt (p : PS) : (oper1 p).2.2.2.lt p := by
  unfold oper1
  simp only
  refine (set_lt _).trans ((decls_le _).trans_lt ?_)
  split
  · exact (adv_lt _).trans (nameS_lt p)
  · exact nameS_lt p
/-- What is marked is not bad, and has a token. -/
theorem mark_nb {p : PS} {s : ByteArray} (h : p.mark s = true) : p.bad = false := by
  cases hp : p.bad with
  | false => rfl
  | true =>
    unfold PS.mark at h
    rw [peek_bad hp] at h
    simp [noTk] at h
end Go.Tt

/- Documents printed, in plain words: what package doc's Print computes. No program in sight. -/
namespace Go.Tt
set_option linter.unusedVariables false
set_option linter.unusedSimpArgs false
open Go.RowKit Go.Lib
def byL (s : ByteArray) : List UInt8 := s.data.toList
def sp (l : List UInt8) : List UInt8 := l ++ [32]
/-- A text's byte, told. -/
def dqc (c : UInt8) : List UInt8 := if c.toNat == 34 then [92, 34] else if c.toNat == 92 then [92, 92] else if c.toNat == 10 then [92, 110] else [c]
def dqL (l : List UInt8) : List UInt8 := 34 :: (l.flatMap dqc ++ [34])
def prV (v : Vl) : List UInt8 :=
  if v.kind = 0 then sp (Lib.itoa v.int)
  else if v.kind = 1 then sp (dqL (byL v.text))
  else if v.kind = 2 then (if v.int = 1 then [116, 114, 117, 101, 32] else [102, 97, 108, 115, 101, 32])
  else 36 :: 32 :: sp (byL v.text)
def prA (a : Ar) : List UInt8 := sp (byL a.name) ++ [58, 32] ++ prV a.val
def prAs (l : List Ar) : List UInt8 := if l.isEmpty then [] else 40 :: 32 :: (l.flatMap prA ++ [41, 32])
def prI (i : Fi) : List UInt8 := [64, 32] ++ sp (byL (if i.skip then tSkip else tIncl)) ++ [40, 32, 105, 102, 32, 58, 32] ++ prV i.val ++ [41, 32]
mutual
def prS : Sl → List UInt8
  | .mk sp_ al nm args ifs sels => (if sp_ then [46, 46, 46, 32] else []) ++ (if eqB al noTx then [] else sp (byL al) ++ [58, 32]) ++ sp (byL nm) ++ prAs args ++ ifs.flatMap prI ++ (if sels.isEmpty then [] else 123 :: 32 :: (prSs sels ++ [125, 32]))
def prSs : List Sl → List UInt8
  | [] => []
  | s :: ss => prS s ++ prSs ss
end
/-- A set. -/
def prSet (ss : List Sl) : List UInt8 := 123 :: 32 :: (prSs ss ++ [125, 32])
def kindW (k : Int) : List UInt8 := if k ≤ 0 then [73, 110, 116] else if k = 1 then [84, 101, 120, 116] else [66, 111, 111, 108]
def prD (d : Dc) : List UInt8 := [36, 32] ++ sp (byL d.name) ++ [58, 32] ++ sp (kindW d.kind)
def prDs (l : List Dc) : List UInt8 := if l.isEmpty then [] else 40 :: 32 :: (l.flatMap prD ++ [41, 32])
def prF (f : Fg) : List UInt8 := sp (byL tFrag) ++ sp (byL f.name) ++ [111, 110, 32] ++ sp (byL f.on) ++ prSet f.sels
def prDoc (d : Dm) : List UInt8 := (if d.mutn then sp (byL tMut) else sp (byL tQuery)) ++ prDs d.decls ++ prSet d.sels ++ d.frags.flatMap prF
/-! ## The limits -/
mutual
def capS (deep : Int) : Sl → Int → Bool × Int
  | .mk _ _ _ args ifs sels, left =>
    if left - 1 < 0 ∨ 6 < args.length ∨ 2 < ifs.length then (false, left - 1)
    else match sels with
      | [] => (true, left - 1)
      | s :: ss => if 4 < deep + 1 then (false, left - 1) else
        let r := capS (deep + 1) s (left - 1)
        if r.1 then capSs (deep + 1) ss r.2 else (false, r.2)
def capSs (deep : Int) : List Sl → Int → Bool × Int
  | [], left => (true, left)
  | s :: ss, left =>
    let r := capS deep s left
    if r.1 then capSs deep ss r.2 else (false, r.2)
end
def cap (ss : List Sl) (deep : Int) (left : Int) : Bool × Int := if 4 < deep then (false, left) else capSs deep ss left
def capFs : List Fg → Int → Bool
  | [], _ => true
  | f :: fs, left => let r := cap f.sels 1 left; r.1 && capFs fs r.2
def limD (d : Dm) : Bool := !(decide (8 < d.decls.length) || decide (8 < d.frags.length)) && (let r := cap d.sels 1 64; r.1 && capFs d.frags r.2)
/-- What Print gives. -/
def PrintIs (d : Dm) (s : ByteArray) (e : Int) : Prop :=
  ((limD d = true ∧ parseL (prDoc d) = (d, 0)) ∧ s = ⟨(prDoc d).toArray⟩ ∧ e = 0) ∨ (¬ (limD d = true ∧ parseL (prDoc d) = (d, 0)) ∧ s = noTx ∧ e = 1500)
end Go.Tt

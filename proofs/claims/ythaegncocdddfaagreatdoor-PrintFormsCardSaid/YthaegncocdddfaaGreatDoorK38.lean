/- Merged: PrC PrE. -/
import Derived.Lib.ItoaLen
import Derived.Test.YthaegncocdddfaaGreatDoorK21
import Derived.Test.YthaegncocdddfaaGreatDoorK24
/- What a reading gives: its texts are no longer than the text that is read, its numbers are ints. No program in sight. -/
namespace Go.Tt
set_option linter.unusedVariables false
set_option linter.unusedSimpArgs false
set_option linter.unusedVariables false
set_option linter.unusedSimpArgs false
open Go.RowKit Go.Lib
def TkOk (N : Nat) (t : Tk) : Prop := t.text.size ≤ N ∧ I64 t.int
def PSOk (N : Nat) (p : PS) : Prop := ∀ t ∈ p.ts, TkOk N t
def VlOk (N : Nat) (v : Vl) : Prop := v.text.size ≤ N ∧ I64 v.int
def ArOk (N : Nat) (a : Ar) : Prop := a.name.size ≤ N ∧ VlOk N a.val
mutual
def SlOk (N : Nat) : Sl → Prop
  | .mk _ al nm args ifs sels => al.size ≤ N ∧ nm.size ≤ N ∧ (∀ a ∈ args, ArOk N a) ∧ (∀ i ∈ ifs, VlOk N i.val) ∧ SsOk N sels
def SsOk (N : Nat) : List Sl → Prop
  | [] => True
  | s :: ss => SlOk N s ∧ SsOk N ss
end
def FgOk (N : Nat) (f : Fg) : Prop := f.name.size ≤ N ∧ f.on.size ≤ N ∧ SsOk N f.sels
def DmOk (N : Nat) (d : Dm) : Prop := (∀ x ∈ d.decls, x.name.size ≤ N) ∧ SsOk N d.sels ∧ ∀ f ∈ d.frags, FgOk N f
mutual
theorem SlOk.i {N : Nat} : ∀ {s : Sl}, SlOk N s → SlI s
  | .mk _ _ _ _ _ _, h => by
    unfold SlOk at h
    unfold SlI
    exact ⟨fun a ha => (h.2.2.1 a ha).2.2, fun i hi => (h.2.2.2.1 i hi).2, SsOk.i h.2.2.2.2⟩
theorem SsOk.i {N : Nat} : ∀ {ss : List Sl}, SsOk N ss → SsI ss
  | [], _ => by unfold SsI; trivial
  | s :: ss, h => by
    unfold SsOk at h
    unfold SsI
    exact ⟨SlOk.i h.1, SsOk.i h.2⟩
end
theorem SsOk.app {N : Nat} : ∀ {a b : List Sl}, SsOk N a → SsOk N b → SsOk N (a ++ b)
  | [], b, _, hb => hb
  | s :: a, b, ha, hb => by
    unfold SsOk at ha
    rw [List.cons_append]
    unfold SsOk
    exact ⟨ha.1, SsOk.app ha.2 hb⟩
theorem I64.zero : I64 0 := ⟨by decide, by decide⟩
theorem I64.one : I64 1 := ⟨by decide, by decide⟩
theorem noTk_ok (N : Nat) : TkOk N noTk := ⟨Nat.zero_le _, I64.zero⟩
variable {N : Nat}
theorem peek_ok {p : PS} (h : PSOk N p) : TkOk N p.peek := by
  unfold PS.peek
  split
  · exact noTk_ok N
  · cases ht : p.ts with
    | nil => exact noTk_ok N
    | cons t r => exact h t (by rw [ht]; exact List.mem_cons_self ..)
theorem adv_ok {p : PS} (h : PSOk N p) : PSOk N p.adv := by
  unfold PS.adv
  split
  · exact h
  · exact fun t ht => h t (List.mem_of_mem_tail ht)
theorem want_ok {p : PS} (h : PSOk N p) (s : ByteArray) : PSOk N (p.want s) := adv_ok h
theorem nameS_ok {p : PS} (h : PSOk N p) : PSOk N p.nameS := adv_ok h
theorem known_ok {p : PS} (h : PSOk N p) (s : ByteArray) : PSOk N (p.known s) := adv_ok h
theorem nameT_ok {p : PS} (h : PSOk N p) : p.nameT.size ≤ N := (peek_ok h).1
theorem bad_ok {p : PS} {b : Bool} (h : PSOk N p) : PSOk N ⟨p.ts, b⟩ := h
theorem no_le (N : Nat) : noTx.size ≤ N := Nat.zero_le _
theorem value_ok {p : PS} (h : PSOk N p) : VlOk N p.value.1 ∧ PSOk N p.value.2 := by
  unfold PS.value
  simp only
  split
  · exact ⟨⟨no_le N, (peek_ok h).2⟩, adv_ok h⟩
  split
  · exact ⟨⟨(peek_ok h).1, I64.zero⟩, adv_ok h⟩
  split
  · exact ⟨⟨no_le N, I64.one⟩, adv_ok h⟩
  split
  · exact ⟨⟨no_le N, I64.zero⟩, adv_ok h⟩
  split
  · exact ⟨⟨nameT_ok (adv_ok h), I64.zero⟩, nameS_ok (adv_ok h)⟩
  · exact ⟨⟨no_le N, I64.zero⟩, bad_ok (adv_ok h)⟩
theorem arg1_ok {p : PS} (h : PSOk N p) : ArOk N (arg1 p).1 ∧ PSOk N (arg1 p).2 := by
  have hv := value_ok (want_ok (nameS_ok h) (mC 58))
  exact ⟨⟨nameT_ok h, hv.1⟩, hv.2⟩
theorem all_app {α : Type} {Q : α → Prop} {l : List α} {x : α} (h : ∀ a ∈ l, Q a) (hx : Q x) : ∀ a ∈ l ++ [x], Q a := fun a ha => by
  rcases List.mem_append.1 ha with ha | ha
  · exact h a ha
  · rw [List.mem_singleton.1 ha]; exact hx
theorem argsL_ok : ∀ (n : Nat) {p : PS} {acc : List Ar}, PSOk N p → (∀ a ∈ acc, ArOk N a) → (∀ a ∈ (argsL n p acc).1, ArOk N a) ∧ PSOk N (argsL n p acc).2
  | 0, p, acc, h, ha => ⟨ha, h⟩
  | n + 1, p, acc, h, ha => by
    unfold argsL
    simp only
    have h1 := arg1_ok h
    split
    · exact argsL_ok n h1.2 (all_app ha h1.1)
    · exact ⟨all_app ha h1.1, want_ok h1.2 _⟩
theorem args_ok {p : PS} (h : PSOk N p) : (∀ a ∈ p.args.1, ArOk N a) ∧ PSOk N p.args.2 := by
  unfold PS.args
  split
  · exact argsL_ok _ (adv_ok h) (by simp)
  · exact ⟨by simp, h⟩
theorem if1_ok {p : PS} (h : PSOk N p) : VlOk N (if1 p).1.val ∧ PSOk N (if1 p).2 := by
  unfold if1
  simp only
  have h2 : PSOk N ⟨p.adv.nameS.ts, p.adv.nameS.bad || (!eqB p.adv.nameT tSkip && !eqB p.adv.nameT tIncl)⟩ := bad_ok (nameS_ok (adv_ok h))
  have hv := value_ok (want_ok (known_ok (want_ok h2 (mC 40)) tIf) (mC 58))
  exact ⟨hv.1, want_ok hv.2 _⟩
theorem ifsL_ok : ∀ (n : Nat) {p : PS} {acc : List Fi}, PSOk N p → (∀ a ∈ acc, VlOk N a.val) → (∀ a ∈ (ifsL n p acc).1, VlOk N a.val) ∧ PSOk N (ifsL n p acc).2
  | 0, p, acc, h, ha => ⟨ha, h⟩
  | n + 1, p, acc, h, ha => by
    unfold ifsL
    split
    · exact ifsL_ok n (if1_ok h).2 (all_app (Q := fun a : Fi => VlOk N a.val) ha (if1_ok h).1)
    · exact ⟨ha, h⟩
theorem ifs_ok {p : PS} (h : PSOk N p) : (∀ a ∈ p.ifs.1, VlOk N a.val) ∧ PSOk N p.ifs.2 := ifsL_ok _ h (by simp)
def FOk (N : Nat) (f : PS → List Sl × PS) : Prop := ∀ p, PSOk N p → SsOk N (f p).1 ∧ PSOk N (f p).2
theorem selH_ok {p : PS} (h : PSOk N p) : (selH p).1.size ≤ N ∧ (selH p).2.1.size ≤ N ∧ PSOk N (selH p).2.2 := by
  unfold selH
  split
  · exact ⟨nameT_ok h, nameT_ok (adv_ok (nameS_ok h)), nameS_ok (adv_ok (nameS_ok h))⟩
  · exact ⟨no_le N, nameT_ok h, nameS_ok h⟩
theorem sel_ok' {f : PS → List Sl × PS} (hf : FOk N f) {p : PS} (h : PSOk N p) : SlOk N (selL f p).1 ∧ PSOk N (selL f p).2 := by
  unfold selL
  split
  · unfold sprL
    have hi := ifs_ok (nameS_ok (adv_ok h))
    unfold SlOk SsOk
    exact ⟨⟨no_le N, nameT_ok (adv_ok h), by simp, hi.1, trivial⟩, hi.2⟩
  · unfold selB
    simp only
    obtain ⟨h1, h2, h3⟩ := selH_ok h
    have ha := args_ok h3
    have hi := ifs_ok ha.2
    split
    · have hs := hf _ hi.2
      unfold SlOk
      exact ⟨⟨h1, h2, ha.1, hi.1, hs.1⟩, hs.2⟩
    · unfold SlOk SsOk
      exact ⟨⟨h1, h2, ha.1, hi.1, trivial⟩, hi.2⟩
theorem setGo_ok {f : PS → List Sl × PS} (hf : FOk N f) : ∀ (n : Nat) {p : PS} {acc : List Sl}, PSOk N p → SsOk N acc → SsOk N (setGo (selL f) n p acc).1 ∧ PSOk N (setGo (selL f) n p acc).2
  | 0, p, acc, h, ha => ⟨ha, h⟩
  | n + 1, p, acc, h, ha => by
    unfold setGo
    split
    · have hs := sel_ok' hf h
      exact setGo_ok hf n hs.2 (ha.app (by unfold SsOk SsOk; exact ⟨hs.1, trivial⟩))
    · exact ⟨ha, want_ok h _⟩
theorem setL_ok : ∀ (n : Nat), FOk N (setL n)
  | 0 => fun p h => ⟨by show SsOk N []; unfold SsOk; trivial, h⟩
  | n + 1 => fun p h => by
    have hf := setL_ok n
    unfold setL
    simp only
    have hs := sel_ok' hf (want_ok h (mC 123))
    exact setGo_ok hf _ hs.2 (by unfold SsOk SsOk; exact ⟨hs.1, trivial⟩)
theorem set_ok' {p : PS} (h : PSOk N p) : SsOk N p.set.1 ∧ PSOk N p.set.2 := setL_ok _ p h
theorem decl1_ok {p : PS} (h : PSOk N p) : (decl1 p).1.name.size ≤ N ∧ PSOk N (decl1 p).2 :=
  ⟨nameT_ok (want_ok h _), bad_ok (nameS_ok (want_ok (nameS_ok (want_ok h (mC 36))) (mC 58)))⟩
theorem declsL_ok : ∀ (n : Nat) {p : PS} {acc : List Dc}, PSOk N p → (∀ a ∈ acc, a.name.size ≤ N) → (∀ a ∈ (declsL n p acc).1, a.name.size ≤ N) ∧ PSOk N (declsL n p acc).2
  | 0, p, acc, h, ha => ⟨ha, h⟩
  | n + 1, p, acc, h, ha => by
    unfold declsL
    simp only
    have h1 := decl1_ok h
    split
    · exact declsL_ok n h1.2 (all_app (Q := fun a : Dc => a.name.size ≤ N) ha h1.1)
    · exact ⟨all_app (Q := fun a : Dc => a.name.size ≤ N) ha h1.1, want_ok h1.2 _⟩
theorem decls_ok' {p : PS} (h : PSOk N p) : (∀ a ∈ p.decls.1, a.name.size ≤ N) ∧ PSOk N p.decls.2 := by
  unfold PS.decls
  split
  · exact declsL_ok _ (adv_ok h) (by simp)
  · exact ⟨by simp, h⟩
theorem frag1_ok {p : PS} (h : PSOk N p) : FgOk N (frag1 p).1 ∧ PSOk N (frag1 p).2 := by
  have h1 := adv_ok h
  have h2 := known_ok (nameS_ok h1) tOn
  have hs := set_ok' (nameS_ok h2)
  exact ⟨⟨nameT_ok h1, nameT_ok h2, hs.1⟩, hs.2⟩
theorem oper1_ok {p : PS} (h : PSOk N p) : (∀ a ∈ (oper1 p).2.1, a.name.size ≤ N) ∧ SsOk N (oper1 p).2.2.1 ∧ PSOk N (oper1 p).2.2.2 := by
  unfold oper1
  simp only
  have h2 : PSOk N (if decide (p.nameS.peek.kind = 0) = true then p.nameS.adv else p.nameS) := by
    split
    · exact adv_ok (nameS_ok h)
    · exact nameS_ok h
  have hd := decls_ok' h2
  have hs := set_ok' hd.2
  exact ⟨hd.1, hs.1, hs.2⟩
theorem allL_ok : ∀ (n : Nat) {p : PS} {k : Int} {d : Dm}, PSOk N p → DmOk N d → DmOk N (allL n p k d).1
  | 0, p, k, d, _, h => h
  | n + 1, p, k, d, hp, h => by
    unfold allL
    split
    · exact h
    split
    · have hf := frag1_ok hp
      exact allL_ok n hf.2 ⟨h.1, h.2.1, all_app h.2.2 hf.1⟩
    split
    · have ho := oper1_ok hp
      exact allL_ok n ho.2.2 ⟨ho.1, ho.2.1, h.2.2⟩
    · have hs := set_ok' hp
      exact allL_ok n hs.2 ⟨h.1, hs.1, h.2.2⟩
/-! ## The lexer -/
theorem decFrom_lt : ∀ (l : List UInt8) (acc n : Nat), decFrom acc l = some n → n < (acc + 1) * 10 ^ l.length
  | [], acc, n, h => by
    unfold decFrom at h
    have := Option.some.inj h
    simp
    omega
  | b :: r, acc, n, h => by
    unfold decFrom at h
    cases hd : digitVal b with
    | none => rw [hd] at h; cases h
    | some d =>
      rw [hd] at h
      have h1 := decFrom_lt r _ n h
      have h2 : d ≤ 9 := by
        unfold digitVal at hd
        split at hd
        · have := Option.some.inj hd
          omega
        · cases hd
      rw [List.length_cons, Nat.pow_succ]
      have h3 : (acc * 10 + d + 1) * 10 ^ r.length ≤ (acc + 1) * 10 * 10 ^ r.length := Nat.mul_le_mul_right _ (by omega)
      have h4 : (acc + 1) * 10 * 10 ^ r.length = (acc + 1) * (10 ^ r.length * 10) := by rw [Nat.mul_assoc, Nat.mul_comm 10]
      omega
theorem atoi_i64 {l : List UInt8} (h : l.length ≤ 17) : I64 ((atoi l).getD 0) := by
  have key : ∀ (r : List UInt8) (m : Nat), r.length ≤ 17 → decNat r = some m → m < 10 ^ 17 := by
    intro r m hr hm
    unfold decNat at hm
    split at hm
    · cases hm
    · have h1 := decFrom_lt r 0 m hm
      have h2 : 10 ^ r.length ≤ 10 ^ 17 := Nat.pow_le_pow_right (by decide) hr
      omega
  cases l with
  | nil => exact I64.zero
  | cons b r =>
    rw [List.length_cons] at h
    rw [show atoi (b :: r) = if b == 45 then (decNat r).map fun (m : Nat) => -(m : Int) else if b == 43 then (decNat r).map fun (m : Nat) => (m : Int) else (decNat (b :: r)).map fun (m : Nat) => (m : Int) from rfl]
    split
    · cases hd : decNat r with
      | none => exact I64.zero
      | some m =>
        have := key r m (by omega) hd
        simp only [Option.map_some, Option.getD_some]
        unfold I64
        omega
    split
    · cases hd : decNat r with
      | none => exact I64.zero
      | some m =>
        have := key r m (by omega) hd
        simp only [Option.map_some, Option.getD_some]
        unfold I64
        omega
    · cases hd : decNat (b :: r) with
      | none => exact I64.zero
      | some m =>
        have := key (b :: r) m (by simpa using h) hd
        simp only [Option.map_some, Option.getD_some]
        unfold I64
        omega
theorem txL_len (l acc : List UInt8) : ∀ x r, txL l acc = some (x, r) → x.length ≤ acc.length + l.length := by
  induction l, acc using txL.induct with
  | case1 acc => intro x r h; unfold txL at h; cases h
  | case2 acc c r hc => intro x y h; unfold txL at h; rw [if_pos hc] at h; cases h
  | case3 acc c r hc hq =>
    intro x y h
    unfold txL at h
    rw [if_neg hc, if_pos hq] at h
    cases h
    omega
  | case4 acc c hc hq hb => intro x y h; unfold txL at h; rw [if_neg hc, if_neg hq, if_pos hb] at h; cases h
  | case5 acc c hc hq hb d r' hd ih =>
    intro x y h
    unfold txL at h
    rw [if_neg hc, if_neg hq, if_pos hb] at h
    simp only [if_pos hd] at h
    have := ih x y h
    simp only [List.length_append, List.length_cons, List.length_nil] at this ⊢
    omega
  | case6 acc c hc hq hb d r' hd hn ih =>
    intro x y h
    unfold txL at h
    rw [if_neg hc, if_neg hq, if_pos hb] at h
    simp only [if_neg hd, if_pos hn] at h
    have := ih x y h
    simp only [List.length_append, List.length_cons, List.length_nil] at this ⊢
    omega
  | case7 acc c hc hq hb d r' hd hn =>
    intro x y h
    unfold txL at h
    rw [if_neg hc, if_neg hq, if_pos hb] at h
    simp only [if_neg hd, if_neg hn] at h
    cases h
  | case8 acc c r hc hq hb ih =>
    intro x y h
    unfold txL at h
    rw [if_neg hc, if_neg hq, if_neg hb] at h
    have := ih x y h
    simp only [List.length_append, List.length_cons, List.length_nil] at this ⊢
    omega
theorem sz_list (l : List UInt8) : (⟨l.toArray⟩ : ByteArray).size = l.length := by
  show l.toArray.size = _
  rw [List.size_toArray]
theorem nuL_ok {N : Nat} (neg : Bool) (r : List UInt8) {t : Tk} {k : Nat} (h : nuL neg r = .inr (t, k)) : TkOk N t := by
  unfold nuL at h
  simp only at h
  split at h
  · cases h
  · next hc =>
    cases h
    refine ⟨no_le N, atoi_i64 ?_⟩
    simp only [Bool.or_eq_true, not_or, Nat.ble_eq] at hc
    have h1 := hc.1.2
    rw [List.length_append]
    cases neg <;> simp <;> omega
theorem tokL_ok {l : List UInt8} {t : Tk} {k : Nat} (h : tokL l = .inr (t, k)) : TkOk (l.length + 32) t := by
  cases l with
  | nil => cases h
  | cons c r =>
    unfold tokL at h
    simp only at h
    split at h
    · split at h
      · next hk =>
        cases h
        refine ⟨?_, I64.zero⟩
        rw [sz_list]
        have := Nat.le_of_ble_eq_true hk
        omega
      · cases h
    split at h
    · exact nuL_ok _ _ h
    split at h
    · exact nuL_ok _ _ h
    split at h
    · cases hx : txL r [] with
      | none => rw [hx] at h; cases h
      | some p =>
        obtain ⟨x, r'⟩ := p
        rw [hx] at h
        cases h
        refine ⟨?_, I64.zero⟩
        rw [sz_list]
        have := txL_len r [] x r' hx
        simp only [List.length_nil, List.length_cons] at this ⊢
        omega
    split at h
    · cases h
      exact ⟨by rw [show (⟨#[c]⟩ : ByteArray).size = 1 from rfl]; omega, I64.zero⟩
    split at h
    · cases h
      exact ⟨by rw [show (⟨#[46, 46, 46]⟩ : ByteArray).size = 3 from rfl]; omega, I64.zero⟩
    · cases h
theorem lexL_ok {N : Nat} : ∀ (n : Nat) {l : List UInt8} {at_ : Nat} {out ts : List Tk}, l.length + 32 ≤ N → (∀ t ∈ out, TkOk N t) → lexL n l at_ out = .inr ts → ∀ t ∈ ts, TkOk N t
  | 0, l, at_, out, ts, _, ho, h => by unfold lexL at h; cases h; exact ho
  | n + 1, [], at_, out, ts, _, ho, h => by unfold lexL at h; cases h; exact ho
  | n + 1, c :: r, at_, out, ts, hl, ho, h => by
    rw [List.length_cons] at hl
    unfold lexL at h
    split at h
    · exact lexL_ok n (by omega) ho h
    split at h
    · simp only at h
      exact lexL_ok n (by rw [List.length_drop]; omega) ho h
    · cases ht : tokL (c :: r) with
      | inl e => rw [ht] at h; cases h
      | inr p =>
        obtain ⟨t, k⟩ := p
        rw [ht] at h
        simp only at h
        have hk := tokL_ok ht
        have h1 : ((c :: r).drop k).length ≤ r.length + 1 := by
          have := List.length_drop (i := k) (l := c :: r)
          rw [List.length_cons] at this
          omega
        refine lexL_ok (l := (c :: r).drop k) n (by omega) (all_app (x := { t with pos := at_ }) ho ⟨Nat.le_trans hk.1 (by rw [List.length_cons]; omega), hk.2⟩) h
theorem parse_dmOk (s : List UInt8) : DmOk 65600 (parseL s).1 := by
  have he : DmOk 65600 emDm := ⟨by simp [emDm], by show SsOk _ []; unfold SsOk; trivial, by simp [emDm]⟩
  unfold parseL
  split
  · exact he
  · next ts hts =>
    have htk : ∀ t ∈ ts, TkOk 65600 t := by
      unfold tokensL at hts
      split at hts
      · cases hts
      · next hlen =>
        cases hx : lexL (s.length + 1) s 0 [] with
        | inl e => rw [hx] at hts; cases hts
        | inr us =>
          rw [hx] at hts
          simp only at hts
          split at hts
          · cases hts
          · cases hts
            have hlt : ¬ 65537 ≤ s.length := fun hk => hlen (Nat.ble_eq_true_of_le hk)
            exact lexL_ok _ (by omega) (by simp) hx
    have hr := allL_ok (N := 65600) (ts.length + 1) (p := ⟨ts, false⟩) (k := 0) (d := emDm) htk he
    simp only
    split
    · exact he
    split
    · exact he
    split
    · exact he
    · exact hr
end Go.Tt

/- How long a printed document is. No program in sight. -/
namespace Go.Tt
set_option linter.unusedVariables false
set_option linter.unusedSimpArgs false
open Go.RowKit Go.Lib
variable {N : Nat}
theorem sp_len (l : List UInt8) : (sp l).length = l.length + 1 := by unfold sp; rw [List.length_append]; rfl
theorem byL_sz (s : ByteArray) : (byL s).length = s.size := by unfold byL; rw [Array.length_toList]; rfl
theorem dqL_len (s : ByteArray) : (dqL (byL s)).length ≤ 2 * s.size + 2 := by
  unfold dqL
  have h1 := dq_len (byL s)
  have h2 : (byL s).count 34 + (byL s).count 92 + (byL s).count 10 ≤ (byL s).length := by
    generalize byL s = l
    induction l with
    | nil => decide
    | cons c l ih =>
      simp only [List.count_cons, List.length_cons, beq_iff_eq]
      by_cases a : c = 34
      · subst a; simp; omega
      by_cases b : c = 92
      · subst b; simp; omega
      · simp only [if_neg a, if_neg b]
        split <;> omega
  rw [byL_sz] at h1 h2
  simp only [List.length_cons, List.length_append, List.length_nil]
  omega
theorem prV_len {v : Vl} (h : VlOk N v) : (prV v).length ≤ 2 * N + 30 := by
  have h1 := itoa_length_le v.int h.2.1 h.2.2
  have h2 := dqL_len v.text
  have h3 := h.1
  unfold prV
  split
  · rw [sp_len]; omega
  split
  · rw [sp_len]; omega
  split
  · split <;> simp <;> omega
  · simp only [List.length_cons]
    rw [sp_len, byL_sz]
    omega
theorem prA_len {a : Ar} (h : ArOk N a) : (prA a).length ≤ 3 * N + 40 := by
  have := prV_len h.2
  have h1 := h.1
  unfold prA
  simp only [List.length_append, sp_len, byL_sz, List.length_cons, List.length_nil]
  omega
theorem fm_len {α : Type} {f : α → List UInt8} {K : Nat} : ∀ {l : List α}, (∀ a ∈ l, (f a).length ≤ K) → (l.flatMap f).length ≤ l.length * K
  | [], _ => by simp
  | x :: l, h => by
    rw [List.flatMap_cons, List.length_append, List.length_cons]
    have h1 := h x (List.mem_cons_self ..)
    have h2 := fm_len fun a ha => h a (List.mem_cons_of_mem _ ha)
    rw [Nat.add_mul]
    omega
theorem prAs_len {l : List Ar} (h : ∀ a ∈ l, ArOk N a) (hl : l.length ≤ 6) : (prAs l).length ≤ 18 * N + 250 := by
  have h1 := fm_len (f := prA) fun a ha => prA_len (h a ha)
  have h2 : l.length * (3 * N + 40) ≤ 6 * (3 * N + 40) := Nat.mul_le_mul_right _ hl
  unfold prAs
  split
  · simp
  · simp only [List.length_cons, List.length_append, List.length_nil]
    omega
theorem prI_len {i : Fi} (h : VlOk N i.val) : (prI i).length ≤ 2 * N + 60 := by
  have h1 := prV_len h
  have h2 : (byL (if i.skip then tSkip else tIncl)).length ≤ 7 := by cases i.skip <;> decide
  unfold prI
  simp only [List.length_append, sp_len, List.length_cons, List.length_nil]
  omega
mutual
def SlC : Sl → Prop
  | .mk _ _ _ args ifs sels => args.length ≤ 6 ∧ ifs.length ≤ 2 ∧ SsC sels
def SsC : List Sl → Prop
  | [] => True
  | s :: ss => SlC s ∧ SsC ss
end
mutual
theorem prS_len : ∀ {s : Sl}, SlOk N s → SlC s → (prS s).length ≤ nS s * (24 * N + 500)
  | .mk sp_ al nm args ifs sels, h, c => by
    unfold SlOk at h
    unfold SlC at c
    have h1 := prAs_len h.2.2.1 c.1
    have h2 := fm_len (f := prI) fun a ha => prI_len (h.2.2.2.1 a ha)
    have h3 : ifs.length * (2 * N + 60) ≤ 2 * (2 * N + 60) := Nat.mul_le_mul_right _ c.2.1
    have h4 := prSs_len h.2.2.2.2 c.2.2
    have h5 := h.1
    have h6 := h.2.1
    have e1 : (if sp_ then [46, 46, 46, 32] else ([] : List UInt8)).length ≤ 4 := by cases sp_ <;> decide
    have e2 : (if eqB al noTx then [] else sp (byL al) ++ [58, 32]).length ≤ N + 3 := by
      split
      · simp
      · rw [List.length_append, sp_len, byL_sz]; simp; omega
    have e3 : (if sels.isEmpty then [] else 123 :: 32 :: (prSs sels ++ [125, 32])).length ≤ (prSs sels).length + 4 := by
      split
      · simp
      · simp
    unfold prS nS
    rw [Nat.add_mul]
    simp only [List.length_append, sp_len, byL_sz]
    omega
theorem prSs_len : ∀ {ss : List Sl}, SsOk N ss → SsC ss → (prSs ss).length ≤ nSs ss * (24 * N + 500)
  | [], _, _ => by simp [prSs, nSs]
  | s :: ss, h, c => by
    unfold SsOk at h
    unfold SsC at c
    have h1 := prS_len h.1 c.1
    have h2 := prSs_len h.2 c.2
    unfold prSs nSs
    rw [List.length_append, Nat.add_mul]
    omega
end
mutual
theorem capS_c : ∀ (s : Sl) (deep left l' : Int), capS deep s left = (true, l') → SlC s ∧ l' = left - nS s ∧ 0 ≤ l'
  | .mk sp_ al nm args ifs sels, deep, left, l', h => by
    unfold capS at h
    split at h
    · cases h
    · next hc =>
      have hc : 0 ≤ left - 1 ∧ args.length ≤ 6 ∧ ifs.length ≤ 2 := by omega
      cases sels with
      | nil =>
        simp only at h
        injection h with _ h
        unfold SlC SsC nS nSs
        exact ⟨⟨hc.2.1, hc.2.2, trivial⟩, by omega, by omega⟩
      | cons s ss =>
        simp only at h
        split at h
        · cases h
        · split at h
          · next hr =>
            have h1 := capS_c s (deep + 1) (left - 1) (capS (deep + 1) s (left - 1)).2 (by rw [← hr])
            have h2 := capSs_c ss (deep + 1) _ l' h
            unfold SlC SsC nS nSs
            exact ⟨⟨hc.2.1, hc.2.2, h1.1, h2.1⟩, by omega, by have := h2.2.2 h1.2.2; omega⟩
          · cases h
theorem capSs_c : ∀ (ss : List Sl) (deep left l' : Int), capSs deep ss left = (true, l') → SsC ss ∧ l' = left - nSs ss ∧ (0 ≤ left → 0 ≤ l')
  | [], deep, left, l', h => by
    unfold capSs at h
    injection h with _ h
    unfold SsC nSs
    exact ⟨trivial, by omega, by omega⟩
  | s :: ss, deep, left, l', h => by
    unfold capSs at h
    simp only at h
    split at h
    · next hr =>
      have h1 := capS_c s deep left (capS deep s left).2 (by rw [← hr])
      have h2 := capSs_c ss deep _ l' h
      unfold SsC nSs
      exact ⟨⟨h1.1, h2.1⟩, by omega, fun _ => h2.2.2 h1.2.2⟩
    · cases h
end
theorem cap_c {ss : List Sl} {left : Int} (h : (cap ss 1 left).1 = true) (hl : 0 ≤ left) : SsC ss ∧ (cap ss 1 left).2 = left - nSs ss ∧ 0 ≤ (cap ss 1 left).2 := by
  unfold cap at h ⊢
  rw [if_neg (by decide)] at h ⊢
  have h1 := capSs_c ss 1 left (capSs 1 ss left).2 (by rw [← h])
  exact ⟨h1.1, h1.2.1, h1.2.2 hl⟩
theorem capFs_c : ∀ {fs : List Fg} {left : Int}, capFs fs left = true → 0 ≤ left → ∀ f ∈ fs, SsC f.sels ∧ (nSs f.sels : Int) ≤ left
  | [], left, _, _ => by simp
  | f :: fs, left, h, hl => by
    unfold capFs at h
    simp only [Bool.and_eq_true] at h
    have h1 := cap_c h.1 hl
    have h2 := capFs_c h.2 h1.2.2
    intro g hg
    rcases List.mem_cons.1 hg with rfl | hg
    · exact ⟨h1.1, by omega⟩
    · have := h2 g hg
      exact ⟨this.1, by omega⟩
theorem prSet_len {ss : List Sl} (h : SsOk N ss) (c : SsC ss) (hn : nSs ss ≤ 64) : (prSet ss).length ≤ 64 * (24 * N + 500) + 4 := by
  have h1 := prSs_len h c
  have h2 : nSs ss * (24 * N + 500) ≤ 64 * (24 * N + 500) := Nat.mul_le_mul_right _ hn
  unfold prSet
  simp only [List.length_cons, List.length_append, List.length_nil]
  omega
theorem prDoc_len {d : Dm} (h : DmOk N d) (c : limD d = true) : (prDoc d).length ≤ 20000 * N + 400000 := by
  unfold limD at c
  simp only [Bool.and_eq_true, Bool.not_eq_true', Bool.or_eq_false_iff, decide_eq_false_iff_not] at c
  obtain ⟨⟨c1, c2⟩, c3, c4⟩ := c
  have k1 := cap_c c3 (by decide)
  have k2 := capFs_c c4 k1.2.2
  have h1 := prSet_len h.2.1 k1.1 (by omega)
  have h2 : (prDs d.decls).length ≤ 8 * (N + 20) + 4 := by
    have e := fm_len (f := prD) (l := d.decls) (K := N + 20) fun x hx => by
      have := h.1 x hx
      have hk : (kindW x.kind).length ≤ 4 := by
        unfold kindW
        split
        · decide
        · split <;> decide
      unfold prD
      simp only [List.length_append, sp_len, byL_sz, List.length_cons, List.length_nil]
      omega
    have e2 : d.decls.length * (N + 20) ≤ 8 * (N + 20) := Nat.mul_le_mul_right _ (by omega)
    unfold prDs
    split
    · simp
    · simp only [List.length_cons, List.length_append, List.length_nil]
      omega
  have h3 : (d.frags.flatMap prF).length ≤ 8 * (2 * N + 40 + (64 * (24 * N + 500) + 4)) := by
    have e := fm_len (f := prF) (l := d.frags) (K := 2 * N + 40 + (64 * (24 * N + 500) + 4)) fun f hf => by
      have hh := h.2.2 f hf
      have kk := k2 f hf
      have hs := prSet_len hh.2.2 kk.1 (by omega)
      have e1 := hh.1
      have e2 := hh.2.1
      have e3 : (byL tFrag).length = 8 := rfl
      unfold prF
      simp only [List.length_append, sp_len, byL_sz, List.length_cons, List.length_nil]
      have e4 : tFrag.size = 8 := rfl
      omega
    have e2 : d.frags.length * (2 * N + 40 + (64 * (24 * N + 500) + 4)) ≤ 8 * (2 * N + 40 + (64 * (24 * N + 500) + 4)) := Nat.mul_le_mul_right _ (by omega)
    exact Nat.le_trans e e2
  have h4 : (if d.mutn then sp (byL tMut) else sp (byL tQuery)).length ≤ 9 := by cases d.mutn <;> decide
  unfold prDoc
  simp only [List.length_append]
  omega
theorem parse_len (s : List UInt8) : limD (parseL s).1 = true → (prDoc (parseL s).1).length ≤ 140737488355328 := fun h =>
  Nat.le_trans (prDoc_len (parse_dmOk s) h) (by decide)
def DmI' (d : Dm) : Prop := SsI d.sels ∧ ∀ f ∈ d.frags, SsI f.sels
theorem parse_i (s : List UInt8) : SsI (parseL s).1.sels ∧ ∀ f ∈ (parseL s).1.frags, SsI f.sels :=
  ⟨(parse_dmOk s).2.1.i, fun f hf => ((parse_dmOk s).2.2 f hf).2.2.i⟩
end Go.Tt

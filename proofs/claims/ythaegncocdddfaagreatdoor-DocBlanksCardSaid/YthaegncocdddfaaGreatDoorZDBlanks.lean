/- Merged: LForm15 BlaL BlaW LDec LBla15 LRows15c RowDBlanks. -/
import Derived.KernelRfl
import Derived.Lib.ItoaLen
import Derived.Deep.DeepCutAuto
import Derived.Deep.CutBlock
import Derived.Test.YthaegncocdddfaaGreatDoorK15
import Derived.Test.YthaegncocdddfaaGreatDoorK20
import Derived.Test.YthaegncocdddfaaGreatDoorK38
import Derived.Test.YthaegncocdddfaaGreatDoorK39
/- The law DocForms, walked. -/
namespace Go.Proofs.YthaegncocdddfaaGreatDoor
set_option linter.unusedVariables false
set_option linter.unusedSimpArgs false
set_option linter.unusedVariables false
set_option linter.unusedSimpArgs false
open Go.RowKit Go.Lib Go.Tt
def badL : List ByteArray := [⟨#[]⟩, ⟨#[123, 125]⟩, ⟨#[123, 97]⟩, ⟨#[97]⟩, ⟨#[123, 97, 125, 125]⟩, ⟨#[123, 97, 58, 125]⟩, ⟨#[123, 97, 40, 41, 125]⟩, ⟨#[123, 97, 40, 98, 41, 125]⟩, ⟨#[123, 97, 40, 98, 58, 41, 125]⟩, ⟨#[123, 97, 40, 98, 58, 99, 41, 125]⟩, ⟨#[123, 97, 32, 64, 115, 107, 105, 112, 125]⟩, ⟨#[123, 97, 32, 64, 102, 111, 111, 40, 105, 102, 58, 116, 114, 117, 101, 41, 125]⟩, ⟨#[123, 97, 32, 64, 115, 107, 105, 112, 40, 111, 102, 58, 116, 114, 117, 101, 41, 125]⟩, ⟨#[123, 46, 46, 46, 125]⟩, ⟨#[113, 117, 101, 114, 121]⟩, ⟨#[113, 117, 101, 114, 121, 40, 41]⟩, ⟨#[113, 117, 101, 114, 121, 40, 36, 97, 41, 123, 97, 125]⟩, ⟨#[113, 117, 101, 114, 121, 40, 36, 97, 58, 70, 111, 111, 41, 123, 97, 125]⟩, ⟨#[113, 117, 101, 114, 121, 40, 41, 123, 97, 125]⟩, ⟨#[102, 114, 97, 103, 109, 101, 110, 116, 32, 70, 32, 111, 110, 32, 84, 123, 97, 125]⟩, ⟨#[123, 97, 125, 32, 102, 114, 97, 103, 109, 101, 110, 116, 32, 70, 32, 84, 123, 97, 125]⟩, ⟨#[123, 97, 125, 32, 102, 114, 97, 103, 109, 101, 110, 116, 32, 70, 32, 111, 110, 32, 84, 123, 125]⟩, ⟨#[123, 97, 125, 32, 123, 98, 125]⟩, ⟨#[115, 117, 98, 115, 99, 114, 105, 112, 116, 105, 111, 110, 123, 97, 125]⟩, ⟨#[109, 117, 116, 97, 116, 105, 111, 110, 32, 109, 32, 110, 123, 97, 125]⟩, ⟨#[123, 97, 40, 98, 58, 34, 120, 41, 125]⟩, ⟨#[123, 97, 37, 125]⟩]
def badW (k : Nat) : Int := if k = 25 then 1301 else if k = 26 then 1300 else 1500
def bad1 (k : Nat) : Int := if k = 25 then 1301 else 1500
def badGo : List ByteArray → Nat → Bool
  | [], _ => true
  | s :: ss, k => ((parseL s.data.toList).2 == badW k) && Nat.ble s.size 100 && badGo ss (k + 1)
theorem badGo_at : ∀ (ss : List ByteArray) (k : Nat), badGo ss k = true → ∀ (i : Nat) (h : i < ss.length), (parseL ss[i].data.toList).2 = badW (k + i) ∧ ss[i].size ≤ 100
  | s :: ss, k, h, 0, _ => by
    unfold badGo at h
    simp only [Bool.and_eq_true] at h
    exact ⟨by simpa using h.1.1, Nat.le_of_ble_eq_true h.1.2⟩
  | s :: ss, k, h, i + 1, hi => by
    unfold badGo at h
    simp only [Bool.and_eq_true] at h
    have := badGo_at ss (k + 1) h.2 i (by simpa using hi)
    rw [show k + (i + 1) = k + 1 + i from by omega]
    exact this
theorem bad_all : badGo badL 0 = true := by kernel_rfl
theorem wmod (n : Int) (m : Nat) (hm : 0 < m) (hm2 : m ≤ 1000) : ∃ k : Nat, k < m ∧ wrap64 ((IntKind.u64.wrap n).tmod m) = k := by
  have h0 : 0 ≤ IntKind.u64.wrap n := by rw [IntKind.wrap_u64]; omega
  rw [Int.tmod_eq_emod_of_nonneg h0]
  have h1 := Int.emod_nonneg (IntKind.u64.wrap n) (b := (m : Int)) (by omega)
  have h2 := Int.emod_lt_of_pos (IntKind.u64.wrap n) (b := (m : Int)) (by omega)
  refine ⟨((IntKind.u64.wrap n) % (m : Int)).toNat, by omega, ?_⟩
  rw [Int.toNat_of_nonneg h1]
  unfold wrap64
  omega
set_option maxHeartbeats 8000000 in
set_option maxRecDepth 100000 in
theorem forms_ok (n : Int) (w : World) (ht : Tab w) : Calls Tryz.prog 5 #[.int .i64 n] w fun e w' => e = .returned (.bool true) ∧ Frm No w w' := by
  obtain ⟨R, hR⟩ : ∃ R : Ending → World → Prop, R = fun e w' => e = .returned (.bool true) ∧ Frm No w w' := ⟨_, rfl⟩
  rw [← hR]
  have HQ := Lib.hid hR
  have hnot : ∀ (x : Bool) (w : World), (Op.unary .not (.bool x)).run Tryz.prog w = .ok (.bool (!x)) w := fun _ _ => rfl
  clear hR
  have H0 := awake_ok w ht
  obtain ⟨k, hk, hkw⟩ := wmod n 27 (by decide) (by decide)
  obtain ⟨s, hs⟩ : ∃ s, s = badL[k]'hk := ⟨_, rfl⟩
  have hpw := badGo_at badL 0 bad_all k hk
  rw [← hs, Nat.zero_add] at hpw
  have HW := Lib.hid hkw
  have HS := Lib.hid hs
  clear hkw hs
  go_enter Tryz.func5, Tryz.ntmps5
  go_wp2_with (fail)
  refine H0.mono ?_
  rintro e w0 ⟨rfl, f0⟩
  clear H0
  go_upto_region 6 with fail
  have hw2 : wrap64 ((IntKind.u64.wrap n).tmod 27) = (k : Int) := HW.out
  rw [hw2]
  clear hw2
  obtain ⟨W0, hW0⟩ : ∃ W, W = w0.alloc (.cells (badL.map Value.string).toArray 9) := ⟨_, rfl⟩
  have F0 : Frm No w W0 := by rw [hW0]; exact f0.al _
  have c0 : W0.cell? ⟨w0.heap.size, k, none⟩ = some (.string s) := by
    rw [hW0, obj_cell (heap_alloc_new w0 _), List.getElem?_toArray, List.getElem?_map, List.getElem?_eq_getElem hk, HS.out]
    rfl
  unfold badL at hW0
  simp only [List.map_cons, List.map_nil] at hW0
  rw [← hW0]
  clear hW0
  generalize w0.heap.size = g0 at c0 ⊢
  go_upto_if 16 with fail
  go_cut [5] (fun s5 wx => s5 = .int .i64 (bad1 k) ∧ wx = W0)
  case first =>
    by_cases h5 : k = 25
    · have q1 : ((k : Int) == 25) = true := by rw [beq_iff_eq]; omega
      rw [q1]
      have H5 := Lib.hid (show bad1 k = 1301 from if_pos h5)
      clear h5 q1
      go_wp2_with (fail)
      go_meet
      exact ⟨by rw [H5.out], rfl⟩
    · have q1 : ((k : Int) == 25) = false := by rw [beq_eq_false_iff_ne]; omega
      rw [q1]
      have H5 := Lib.hid (show bad1 k = 1500 from if_neg h5)
      clear h5 q1
      go_wp2_with (fail)
      go_meet
      exact ⟨by rw [H5.out], rfl⟩
  case rest =>
    obtain ⟨rfl, rfl⟩ := hcut
    go_upto_if 18 with fail
    go_cut [5] (fun s5 wx => s5 = .int .i64 (badW k) ∧ wc = wx)
    case first =>
      by_cases h5 : k = 26
      · have q1 : ((k : Int) == 26) = true := by rw [beq_iff_eq]; omega
        rw [q1]
        have H5 := Lib.hid (show badW k = 1300 from by rw [h5]; rfl)
        clear h5 q1
        go_wp2_with (fail)
        go_meet
        exact ⟨by rw [H5.out], rfl⟩
      · have q1 : ((k : Int) == 26) = false := by rw [beq_eq_false_iff_ne]; omega
        rw [q1]
        have H5 := Lib.hid (show badW k = bad1 k from by unfold badW bad1; rw [if_neg h5])
        clear h5 q1
        go_wp2_with (fail)
        go_meet
        exact ⟨by rw [H5.out], rfl⟩
    case rest =>
      obtain ⟨rfl, rfl⟩ := hcut
      have H1 := parse_c s wc (by omega)
      have hbad := parse_bad s.data.toList (by
        rw [hpw.1]
        unfold badW
        split
        · decide
        · split <;> decide)
      have hp : parseL s.data.toList = (emDm, badW k) := by
        rw [← hbad, ← hpw.1]
      rw [hp] at H1
      clear hbad hp hpw
      go_wp2_with (fail)
      refine H1.mono ?_
      rintro e w1 ⟨v1, rfl, O1, f1⟩
      have D1 := O1.rd
      obtain ⟨W1, hW1⟩ : ∃ W, W = w1.alloc (docB v1) := ⟨_, rfl⟩
      have X1 : W1.heap[w1.heap.size]? = some (docB v1) := by rw [hW1]; exact heap_alloc_new w1 _
      have F1 : Frm No w1 W1 := by rw [hW1]; exact (Frm.refl No w1).al _
      have D2 := D1.frm F1 fun _ _ _ h => h
      have G1 := (F0.trans f1).trans F1
      have HSM := sameDoc_ok D2 (rd_em W1)
      have p0 := obj_cell X1 0
      have p1 := obj_cell X1 1
      have p2 := obj_cell X1 2
      have p3 := obj_cell X1 3
      simp only [List.getElem?_toArray, List.getElem?_cons_succ, List.getElem?_cons_zero] at p0 p1 p2 p3
      have l1 := lt_of_block X1
      unfold docB at hW1
      unfold dval nsh at HSM
      unfold dval
      clear X1 D1 f1 F1 D2 H1 O1
      go_upto_region 11 with fail
      rw [← hW1]
      clear hW1
      go_wp2_with (fail)
      refine HSM.mono ?_
      rintro e w2 ⟨rfl, f2⟩
      clear HSM p0 p1 p2 p3 l1
      go_wp2_with (go_at_call 15; refine (num_ok _ _).mono ?_; rintro e w' ⟨rfl, rfl⟩)
      rw [HQ.out]
      exact ⟨rfl, G1.trans f2⟩
end Go.Proofs.YthaegncocdddfaaGreatDoor

/- Where tokens stand makes no difference to the parser. No program in sight. -/
namespace Go.Tt
set_option linter.unusedVariables false
set_option linter.unusedSimpArgs false
open Go.RowKit Go.Lib
def tk0 (t : Tk) : Tk := ⟨t.kind, t.text, t.int, 0⟩
def er (p : PS) : PS := ⟨p.ts.map tk0, p.bad⟩
theorem peek_er (p : PS) : (er p).peek = tk0 p.peek := by
  unfold PS.peek er
  simp only
  split
  · rfl
  · cases p.ts <;> rfl
theorem kind_er (p : PS) : (er p).peek.kind = p.peek.kind := by rw [peek_er]; rfl
theorem text_er (p : PS) : (er p).peek.text = p.peek.text := by rw [peek_er]; rfl
theorem int_er (p : PS) : (er p).peek.int = p.peek.int := by rw [peek_er]; rfl
theorem bad_er (p : PS) : (er p).bad = p.bad := rfl
theorem er_mk (ts : List Tk) (b : Bool) : (⟨ts.map tk0, b⟩ : PS) = er ⟨ts, b⟩ := rfl
theorem len_er (p : PS) : (er p).ts.length = p.ts.length := by unfold er; rw [List.length_map]
theorem m_er (p : PS) : (er p).m = p.m := by unfold PS.m; rw [bad_er, len_er]
theorem adv_er (p : PS) : (er p).adv = er p.adv := by
  unfold PS.adv
  rw [kind_er]
  split
  · rfl
  · unfold er
    simp only [List.map_tail]
theorem mark_er (p : PS) (s : ByteArray) : (er p).mark s = p.mark s := by unfold PS.mark; rw [kind_er, text_er]
theorem word_er (p : PS) (s : ByteArray) : (er p).word s = p.word s := by unfold PS.word; rw [kind_er, text_er]
theorem want_er (p : PS) (s : ByteArray) : (er p).want s = er (p.want s) := by unfold PS.want; rw [adv_er, mark_er]; rfl
theorem nameT_er (p : PS) : (er p).nameT = p.nameT := text_er p
theorem nameS_er (p : PS) : (er p).nameS = er p.nameS := by unfold PS.nameS; rw [adv_er, kind_er]; rfl
theorem known_er (p : PS) (s : ByteArray) : (er p).known s = er (p.known s) := by unfold PS.known; rw [nameS_er, nameT_er]; rfl
theorem value_er (p : PS) : (er p).value = (p.value.1, er p.value.2) := by
  unfold PS.value
  simp only [kind_er, text_er, int_er, adv_er, nameT_er, nameS_er]
  split
  · rfl
  split
  · rfl
  split
  · rfl
  split
  · rfl
  split
  · rfl
  · rfl
theorem arg1_er (p : PS) : arg1 (er p) = ((arg1 p).1, er (arg1 p).2) := by
  unfold arg1
  simp only [nameT_er, nameS_er, want_er, value_er]
theorem argsL_er : ∀ (n : Nat) (p : PS) (acc : List Ar), argsL n (er p) acc = ((argsL n p acc).1, er (argsL n p acc).2)
  | 0, _, _ => rfl
  | n + 1, p, acc => by
    unfold argsL
    simp only [arg1_er, bad_er, mark_er, want_er, argsL_er n]
    split <;> rfl
theorem args_er (p : PS) : (er p).args = (p.args.1, er p.args.2) := by
  unfold PS.args
  simp only [mark_er, adv_er, m_er, argsL_er]
  split <;> rfl
theorem erbad (p : PS) (b : Bool) : (⟨(er p).ts, b⟩ : PS) = er ⟨p.ts, b⟩ := rfl
theorem if1_er (p : PS) : if1 (er p) = ((if1 p).1, er (if1 p).2) := by
  unfold if1
  simp only [adv_er, nameT_er, nameS_er, bad_er, erbad, want_er, known_er, value_er]
theorem ifsL_er : ∀ (n : Nat) (p : PS) (acc : List Fi), ifsL n (er p) acc = ((ifsL n p acc).1, er (ifsL n p acc).2)
  | 0, _, _ => rfl
  | n + 1, p, acc => by
    unfold ifsL
    simp only [if1_er, mark_er, ifsL_er n]
    split <;> rfl
theorem ifs_er (p : PS) : (er p).ifs = (p.ifs.1, er p.ifs.2) := by unfold PS.ifs; rw [m_er, ifsL_er]
theorem selH_er (p : PS) : selH (er p) = ((selH p).1, (selH p).2.1, er (selH p).2.2) := by
  unfold selH
  simp only [nameS_er, mark_er, nameT_er, adv_er]
  split <;> rfl
def FEr (f : PS → List Sl × PS) : Prop := ∀ p, f (er p) = ((f p).1, er (f p).2)
theorem selL_er {f : PS → List Sl × PS} (hf : FEr f) (p : PS) : selL f (er p) = ((selL f p).1, er (selL f p).2) := by
  unfold selL sprL selB
  simp only [mark_er, adv_er, nameT_er, nameS_er, ifs_er, selH_er, args_er]
  split
  · rfl
  · simp only [hf _]
    split <;> rfl
theorem setGo_er {f : PS → List Sl × PS} (hf : FEr f) : ∀ (n : Nat) (p : PS) (acc : List Sl), setGo (selL f) n (er p) acc = ((setGo (selL f) n p acc).1, er (setGo (selL f) n p acc).2)
  | 0, _, _ => rfl
  | n + 1, p, acc => by
    unfold setGo
    simp only [bad_er, mark_er, selL_er hf, setGo_er hf n, want_er]
    split <;> rfl
theorem setL_er : ∀ (n : Nat), FEr (setL n)
  | 0 => fun _ => rfl
  | n + 1 => fun p => by
    unfold setL
    simp only [want_er, selL_er (setL_er n), m_er, setGo_er (setL_er n)]
theorem set_er (p : PS) : (er p).set = (p.set.1, er p.set.2) := by unfold PS.set; rw [m_er, setL_er]
theorem decl1_er (p : PS) : decl1 (er p) = ((decl1 p).1, er (decl1 p).2) := by
  unfold decl1
  simp only [want_er, nameS_er, nameT_er, bad_er, erbad]
theorem declsL_er : ∀ (n : Nat) (p : PS) (acc : List Dc), declsL n (er p) acc = ((declsL n p acc).1, er (declsL n p acc).2)
  | 0, _, _ => rfl
  | n + 1, p, acc => by
    unfold declsL
    simp only [decl1_er, bad_er, mark_er, want_er, declsL_er n]
    split <;> rfl
theorem decls_er (p : PS) : (er p).decls = (p.decls.1, er p.decls.2) := by
  unfold PS.decls
  simp only [mark_er, adv_er, m_er, declsL_er]
  split <;> rfl
theorem frag1_er (p : PS) : frag1 (er p) = ((frag1 p).1, er (frag1 p).2) := by
  unfold frag1
  simp only [adv_er, nameS_er, nameT_er, known_er, set_er]
theorem oper1_er (p : PS) : oper1 (er p) = ((oper1 p).1, (oper1 p).2.1, (oper1 p).2.2.1, er (oper1 p).2.2.2) := by
  unfold oper1
  simp only [nameS_er, nameT_er, kind_er, adv_er]
  split
  · simp only [decls_er, set_er]
  · simp only [decls_er, set_er]
theorem allL_er : ∀ (n : Nat) (p : PS) (k : Int) (d : Dm), allL n (er p) k d = ((allL n p k d).1, er (allL n p k d).2)
  | 0, _, _, _ => rfl
  | n + 1, p, k, d => by
    unfold allL
    simp only [bad_er, len_er, word_er, frag1_er, oper1_er, set_er, allL_er n]
    split
    · rfl
    split
    · rfl
    split
    · rfl
    · rfl
/-- The same tokens, wherever they stand, read alike. -/
theorem parse_alike {s t : List UInt8} {ts us : List Tk} (hs : tokensL s = .inr ts) (ht : tokensL t = .inr us) (h : ts.map tk0 = us.map tk0) : parseL s = parseL t := by
  have hl : ts.length = us.length := by have := congrArg List.length h; simpa using this
  have e : ∀ n, (allL n ⟨ts, false⟩ 0 emDm).1 = (allL n ⟨us, false⟩ 0 emDm).1 ∧ (allL n ⟨ts, false⟩ 0 emDm).2.bad = (allL n ⟨us, false⟩ 0 emDm).2.bad := by
    intro n
    have h1 := allL_er n ⟨ts, false⟩ 0 emDm
    have h2 := allL_er n ⟨us, false⟩ 0 emDm
    have h3 : er ⟨ts, false⟩ = er ⟨us, false⟩ := by unfold er; rw [h]
    rw [h3, h2] at h1
    injection h1 with ha hb
    exact ⟨ha.symm, (congrArg PS.bad hb).symm⟩
  unfold parseL
  rw [hs, ht]
  simp only
  rw [hl, (e _).1, (e _).2]
/-! ## The lexer, from word to word -/
/-- From here on the tokens are ts. -/
def LexTo (l : List UInt8) (at_ : Nat) (out : List Tk) (r : Int ⊕ List Tk) : Prop := ∀ n, l.length < n → lexL n l at_ out = r
theorem LexTo.done (at_ : Nat) (out : List Tk) : LexTo [] at_ out (.inr out) := fun n hn => by
  cases n with
  | zero => simp at hn
  | succ n => rfl
theorem LexTo.blank {c : UInt8} {l : List UInt8} {at_ : Nat} {out : List Tk} {r : Int ⊕ List Tk} (h : LexTo l (at_ + 1) out r) (hc : blB c = true) : LexTo (c :: l) at_ out r := fun n hn => by
  cases n with
  | zero => simp at hn
  | succ n =>
    unfold lexL
    rw [if_pos hc]
    exact h n (by simpa using hn)
theorem LexTo.remark {l : List UInt8} {at_ : Nat} {out : List Tk} {r : Int ⊕ List Tk} (h : LexTo (10 :: l) (at_ + 2) out r) : LexTo (35 :: 123 :: 10 :: l) at_ out r := fun n hn => by
  cases n with
  | zero => simp at hn
  | succ n =>
    unfold lexL
    rw [if_neg (by decide), if_pos (by decide)]
    exact h n (by simp at hn ⊢; omega)
theorem LexTo.tok {c : UInt8} {w l : List UInt8} {at_ : Nat} {out : List Tk} {r : Int ⊕ List Tk} {t : Tk} {k : Nat} (h : LexTo l (at_ + k) (out ++ [{ t with pos := at_ }]) r) (ht : tokL (c :: w ++ l) = .inr (t, k)) (hk : k = w.length + 1) (hb : blB c = false) (hr : (c.toNat == 35) = false) : LexTo (c :: w ++ l) at_ out r := fun n hn => by
  cases n with
  | zero => simp at hn
  | succ n =>
    rw [List.cons_append] at ht ⊢
    unfold lexL
    rw [if_neg (by rw [hb]; decide), if_neg (by rw [hr]; decide), ht]
    simp only
    have e : (c :: (w ++ l)).drop k = l := by
      rw [hk, List.drop_succ_cons, List.drop_left]
    rw [e]
    exact h n (by simp at hn; omega)
end Go.Tt

/- Words with whatever blanks between them. No program in sight. -/
namespace Go.Tt
set_option linter.unusedVariables false
set_option linter.unusedSimpArgs false
open Go.RowKit Go.Lib
structure Wd (w : List UInt8) (t : Tk) : Prop where
  ne : ∃ c w', w = c :: w' ∧ blB c = false ∧ (c.toNat == 35) = false
  tok : ∀ rest, tokL (w ++ 32 :: rest) = .inr (t, w.length)
theorem Wd.name {c : UInt8} {w : List UInt8} (h : (c :: w).all wdB = true) (hf : fiB c = true) (hl : (c :: w).length ≤ 32) (hb : blB c = false) (hr : (c.toNat == 35) = false) : Wd (c :: w) ⟨0, ⟨(c :: w).toArray⟩, 0, 0⟩ := by
  refine ⟨⟨c, w, rfl, hb, hr⟩, fun rest => ?_⟩
  have e : ((c :: w) ++ 32 :: rest).takeWhile wdB = c :: w := by
    rw [List.takeWhile_append_of_pos (fun x hx => List.all_eq_true.1 h x hx)]
    rw [List.takeWhile_cons_of_neg (by decide), List.append_nil]
  rw [List.cons_append] at e ⊢
  unfold tokL
  simp only
  rw [if_pos hf, e, if_pos (Nat.ble_eq_true_of_le hl)]
theorem Wd.mark {c : UInt8} (h1 : fiB c = false) (h2 : (c.toNat == 45) = false) (h3 : dgB c = false) (h4 : (c.toNat == 34) = false) (h5 : mkB c = true) (hb : blB c = false) (hr : (c.toNat == 35) = false) : Wd [c] ⟨3, ⟨#[c]⟩, 0, 0⟩ := by
  refine ⟨⟨c, [], rfl, hb, hr⟩, fun rest => ?_⟩
  rw [List.cons_append, List.nil_append]
  unfold tokL
  simp only
  rw [if_neg (by rw [h1]; decide), if_neg (by rw [h2]; decide), if_neg (by rw [h3]; decide), if_neg (by rw [h4]; decide), if_pos h5]
  rfl
theorem Wd.dots : Wd [46, 46, 46] ⟨3, ⟨#[46, 46, 46]⟩, 0, 0⟩ := ⟨⟨46, [46, 46], rfl, by decide, by decide⟩, fun _ => rfl⟩
theorem Wd.qx : Wd [34, 120, 34] ⟨2, ⟨#[120]⟩, 0, 0⟩ := by
  refine ⟨⟨34, [120, 34], rfl, by decide, by decide⟩, fun rest => ?_⟩
  have e : tokL ([34, 120, 34] ++ 32 :: rest) = .inr (⟨2, ⟨#[120]⟩, 0, 0⟩, (34 :: 120 :: 34 :: 32 :: rest).length - (32 :: rest).length) := rfl
  rw [e]
  congr 2
  simp only [List.length_cons, List.length_nil]
  omega
def blk : Nat → List UInt8
  | 0 => [32]
  | 1 => [44]
  | 2 => [10, 9]
  | 3 => [35, 123, 10]
  | _ => []
def gt : List (Nat × List UInt8) → List UInt8
  | [] => []
  | (c, w) :: r => blk c ++ w ++ 32 :: gt r
theorem gt_app : ∀ (a b : List (Nat × List UInt8)), gt (a ++ b) = gt a ++ gt b
  | [], _ => rfl
  | (c, w) :: a, b => by
    show blk c ++ w ++ 32 :: gt (a ++ b) = (blk c ++ w ++ 32 :: gt a) ++ gt b
    rw [gt_app a b]
    simp
theorem blk_len (c : Nat) : (blk c).length ≤ 3 := by
  unfold blk
  split <;> decide
theorem gt_len {K : Nat} : ∀ (a : List (Nat × List UInt8)), (∀ x ∈ a, x.2.length ≤ K) → (gt a).length ≤ a.length * (K + 4)
  | [], _ => by simp [gt]
  | (c, w) :: a, h => by
    have h1 := gt_len a fun x hx => h x (List.mem_cons_of_mem _ hx)
    have h2 := h (c, w) (List.mem_cons_self ..)
    have h3 := blk_len c
    unfold gt
    simp only [List.length_append, List.length_cons] at h2 ⊢
    rw [Nat.add_mul]
    omega
theorem LexTo.blk (c : Nat) {l : List UInt8} {at_ : Nat} {out : List Tk} {r : Int ⊕ List Tk} (h : ∀ a, LexTo l a out r) : LexTo (Go.Tt.blk c ++ l) at_ out r := by
  unfold Go.Tt.blk
  split
  · exact LexTo.blank (h _) (by decide)
  · exact LexTo.blank (h _) (by decide)
  · exact LexTo.blank (LexTo.blank (h _) (by decide)) (by decide)
  · exact LexTo.remark (LexTo.blank (h _) (by decide))
  · exact h _
/-- Words with their tokens, whatever blanks stand ahead of each. -/
theorem gt_lex : ∀ (ws : List (List UInt8 × Tk)) (cs : List Nat), cs.length = ws.length → (∀ x ∈ ws, Wd x.1 x.2) → ∀ (at_ : Nat) (out : List Tk), ∃ ts, LexTo (gt (cs.zip (ws.map (·.1)))) at_ out (.inr (out ++ ts)) ∧ ts.map tk0 = ws.map fun x => tk0 x.2
  | [], [], _, _, at_, out => ⟨[], by rw [List.append_nil]; exact LexTo.done at_ out, rfl⟩
  | (w, t) :: ws, c :: cs, hl, hw, at_, out => by
    have hx := hw (w, t) (List.mem_cons_self ..)
    obtain ⟨d, w', rfl, hb, hr⟩ := hx.ne
    simp only [List.map_cons, List.zip_cons_cons]
    unfold gt
    -- the tokens behind depend on where this one stands: each place on its own
    have step : ∀ a, ∃ ts, LexTo (d :: w' ++ 32 :: gt (cs.zip (ws.map (·.1)))) a out (.inr (out ++ ts)) ∧ ts.map tk0 = (t :: ws.map (·.2)).map tk0 := by
      intro a
      obtain ⟨ts, h1, h2⟩ := gt_lex ws cs (by simpa using hl) (fun x hx => hw x (List.mem_cons_of_mem _ hx)) (a + (w'.length + 1) + 1) (out ++ [{ t with pos := a }])
      refine ⟨{ t with pos := a } :: ts, ?_, ?_⟩
      · refine LexTo.tok (k := w'.length + 1) (t := t) (LexTo.blank (c := 32) ?_ (by decide)) (hx.tok _) rfl hb hr
        rw [List.append_assoc] at h1
        exact h1
      · rw [List.map_cons, h2, List.map_cons, List.map_map]
        rfl
    have key : ∃ a, ∀ r, LexTo (d :: w' ++ 32 :: gt (cs.zip (ws.map (·.1)))) a out r → LexTo (blk c ++ (d :: w') ++ 32 :: gt (cs.zip (ws.map (·.1)))) at_ out r := by
      rw [show blk c ++ (d :: w') ++ 32 :: gt (cs.zip (ws.map (·.1))) = blk c ++ (d :: w' ++ 32 :: gt (cs.zip (ws.map (·.1)))) from by simp]
      generalize d :: w' ++ 32 :: gt (cs.zip (ws.map (·.1))) = l
      unfold blk
      split
      · exact ⟨_, fun r h => LexTo.blank h (by decide)⟩
      · exact ⟨_, fun r h => LexTo.blank h (by decide)⟩
      · exact ⟨_, fun r h => LexTo.blank (LexTo.blank h (by decide)) (by decide)⟩
      · exact ⟨_, fun r h => LexTo.remark (LexTo.blank h (by decide))⟩
      · exact ⟨_, fun r h => h⟩
    obtain ⟨a, ha⟩ := key
    obtain ⟨ts, h1, h2⟩ := step a
    exact ⟨ts, ha _ h1, by rw [h2, List.map_cons, List.map_map]; rfl⟩
theorem gt_tokens (ws : List (List UInt8 × Tk)) (cs : List Nat) (hl : cs.length = ws.length) (hw : ∀ x ∈ ws, Wd x.1 x.2) (hn : ws.length ≤ 100) (hk : ∀ x ∈ ws, x.1.length ≤ 20) : ∃ ts, tokensL (gt (cs.zip (ws.map (·.1)))) = .inr ts ∧ ts.map tk0 = ws.map fun x => tk0 x.2 := by
  obtain ⟨ts, h1, h2⟩ := gt_lex ws cs hl hw 0 []
  refine ⟨ts, ?_, h2⟩
  have hlen := gt_len (K := 20) (cs.zip (ws.map (·.1))) fun x hx => by
    obtain ⟨y, hy, e⟩ := List.mem_map.1 (List.of_mem_zip hx).2
    rw [← e]
    exact hk y hy
  have hz : (cs.zip (ws.map (·.1))).length ≤ 100 := by rw [List.length_zip]; omega
  have hz2 : (cs.zip (ws.map (·.1))).length * (20 + 4) ≤ 100 * (20 + 4) := Nat.mul_le_mul_right _ hz
  have h3 := h1 ((gt (cs.zip (ws.map (·.1)))).length + 1) (Nat.lt_succ_self _)
  have htl : ts.length = ws.length := by have := congrArg List.length h2; simpa using this
  unfold tokensL
  rw [if_neg (by intro h; have := Nat.le_of_ble_eq_true h; omega), h3]
  simp only [List.nil_append]
  rw [if_neg (by intro h; have := Nat.le_of_ble_eq_true h; omega)]
def bw0 : List (List UInt8 × Tk) := [([113, 117, 101, 114, 121], ⟨0, ⟨#[113, 117, 101, 114, 121]⟩, 0, 0⟩), ([113], ⟨0, ⟨#[113]⟩, 0, 0⟩), ([123], ⟨3, ⟨#[123]⟩, 0, 0⟩), ([84], ⟨0, ⟨#[84]⟩, 0, 0⟩), ([40], ⟨3, ⟨#[40]⟩, 0, 0⟩), ([105, 100], ⟨0, ⟨#[105, 100]⟩, 0, 0⟩), ([58], ⟨3, ⟨#[58]⟩, 0, 0⟩), ([34, 120, 34], ⟨2, ⟨#[120]⟩, 0, 0⟩), ([41], ⟨3, ⟨#[41]⟩, 0, 0⟩), ([123], ⟨3, ⟨#[123]⟩, 0, 0⟩), ([97], ⟨0, ⟨#[97]⟩, 0, 0⟩), ([98], ⟨0, ⟨#[98]⟩, 0, 0⟩), ([125], ⟨3, ⟨#[125]⟩, 0, 0⟩), ([125], ⟨3, ⟨#[125]⟩, 0, 0⟩)]
theorem bw0_ok : ∀ x ∈ bw0, Wd x.1 x.2 := by
  intro x hx
  unfold bw0 at hx
  simp only [List.mem_cons, List.not_mem_nil, or_false] at hx
  rcases hx with rfl | rfl | rfl | rfl | rfl | rfl | rfl | rfl | rfl | rfl | rfl | rfl | rfl | rfl
  · exact Wd.name (by decide) (by decide) (by decide) (by decide) (by decide)
  · exact Wd.name (by decide) (by decide) (by decide) (by decide) (by decide)
  · exact Wd.mark (by decide) (by decide) (by decide) (by decide) (by decide) (by decide) (by decide)
  · exact Wd.name (by decide) (by decide) (by decide) (by decide) (by decide)
  · exact Wd.mark (by decide) (by decide) (by decide) (by decide) (by decide) (by decide) (by decide)
  · exact Wd.name (by decide) (by decide) (by decide) (by decide) (by decide)
  · exact Wd.mark (by decide) (by decide) (by decide) (by decide) (by decide) (by decide) (by decide)
  · exact Wd.qx
  · exact Wd.mark (by decide) (by decide) (by decide) (by decide) (by decide) (by decide) (by decide)
  · exact Wd.mark (by decide) (by decide) (by decide) (by decide) (by decide) (by decide) (by decide)
  · exact Wd.name (by decide) (by decide) (by decide) (by decide) (by decide)
  · exact Wd.name (by decide) (by decide) (by decide) (by decide) (by decide)
  · exact Wd.mark (by decide) (by decide) (by decide) (by decide) (by decide) (by decide) (by decide)
  · exact Wd.mark (by decide) (by decide) (by decide) (by decide) (by decide) (by decide) (by decide)
def bw1 : List (List UInt8 × Tk) := [([109, 117, 116, 97, 116, 105, 111, 110], ⟨0, ⟨#[109, 117, 116, 97, 116, 105, 111, 110]⟩, 0, 0⟩), ([40], ⟨3, ⟨#[40]⟩, 0, 0⟩), ([36], ⟨3, ⟨#[36]⟩, 0, 0⟩), ([118], ⟨0, ⟨#[118]⟩, 0, 0⟩), ([58], ⟨3, ⟨#[58]⟩, 0, 0⟩), ([73, 110, 116], ⟨0, ⟨#[73, 110, 116]⟩, 0, 0⟩), ([41], ⟨3, ⟨#[41]⟩, 0, 0⟩), ([123], ⟨3, ⟨#[123]⟩, 0, 0⟩), ([107], ⟨0, ⟨#[107]⟩, 0, 0⟩), ([58], ⟨3, ⟨#[58]⟩, 0, 0⟩), ([105, 110, 99], ⟨0, ⟨#[105, 110, 99]⟩, 0, 0⟩), ([40], ⟨3, ⟨#[40]⟩, 0, 0⟩), ([114, 101], ⟨0, ⟨#[114, 101]⟩, 0, 0⟩), ([58], ⟨3, ⟨#[58]⟩, 0, 0⟩), ([36], ⟨3, ⟨#[36]⟩, 0, 0⟩), ([118], ⟨0, ⟨#[118]⟩, 0, 0⟩), ([41], ⟨3, ⟨#[41]⟩, 0, 0⟩), ([125], ⟨3, ⟨#[125]⟩, 0, 0⟩)]
theorem bw1_ok : ∀ x ∈ bw1, Wd x.1 x.2 := by
  intro x hx
  unfold bw1 at hx
  simp only [List.mem_cons, List.not_mem_nil, or_false] at hx
  rcases hx with rfl | rfl | rfl | rfl | rfl | rfl | rfl | rfl | rfl | rfl | rfl | rfl | rfl | rfl | rfl | rfl | rfl | rfl
  · exact Wd.name (by decide) (by decide) (by decide) (by decide) (by decide)
  · exact Wd.mark (by decide) (by decide) (by decide) (by decide) (by decide) (by decide) (by decide)
  · exact Wd.mark (by decide) (by decide) (by decide) (by decide) (by decide) (by decide) (by decide)
  · exact Wd.name (by decide) (by decide) (by decide) (by decide) (by decide)
  · exact Wd.mark (by decide) (by decide) (by decide) (by decide) (by decide) (by decide) (by decide)
  · exact Wd.name (by decide) (by decide) (by decide) (by decide) (by decide)
  · exact Wd.mark (by decide) (by decide) (by decide) (by decide) (by decide) (by decide) (by decide)
  · exact Wd.mark (by decide) (by decide) (by decide) (by decide) (by decide) (by decide) (by decide)
  · exact Wd.name (by decide) (by decide) (by decide) (by decide) (by decide)
  · exact Wd.mark (by decide) (by decide) (by decide) (by decide) (by decide) (by decide) (by decide)
  · exact Wd.name (by decide) (by decide) (by decide) (by decide) (by decide)
  · exact Wd.mark (by decide) (by decide) (by decide) (by decide) (by decide) (by decide) (by decide)
  · exact Wd.name (by decide) (by decide) (by decide) (by decide) (by decide)
  · exact Wd.mark (by decide) (by decide) (by decide) (by decide) (by decide) (by decide) (by decide)
  · exact Wd.mark (by decide) (by decide) (by decide) (by decide) (by decide) (by decide) (by decide)
  · exact Wd.name (by decide) (by decide) (by decide) (by decide) (by decide)
  · exact Wd.mark (by decide) (by decide) (by decide) (by decide) (by decide) (by decide) (by decide)
  · exact Wd.mark (by decide) (by decide) (by decide) (by decide) (by decide) (by decide) (by decide)
def bw2 : List (List UInt8 × Tk) := [([123], ⟨3, ⟨#[123]⟩, 0, 0⟩), ([97], ⟨0, ⟨#[97]⟩, 0, 0⟩), ([64], ⟨3, ⟨#[64]⟩, 0, 0⟩), ([115, 107, 105, 112], ⟨0, ⟨#[115, 107, 105, 112]⟩, 0, 0⟩), ([40], ⟨3, ⟨#[40]⟩, 0, 0⟩), ([105, 102], ⟨0, ⟨#[105, 102]⟩, 0, 0⟩), ([58], ⟨3, ⟨#[58]⟩, 0, 0⟩), ([116, 114, 117, 101], ⟨0, ⟨#[116, 114, 117, 101]⟩, 0, 0⟩), ([41], ⟨3, ⟨#[41]⟩, 0, 0⟩), ([123], ⟨3, ⟨#[123]⟩, 0, 0⟩), ([46, 46, 46], ⟨3, ⟨#[46, 46, 46]⟩, 0, 0⟩), ([70], ⟨0, ⟨#[70]⟩, 0, 0⟩), ([125], ⟨3, ⟨#[125]⟩, 0, 0⟩), ([125], ⟨3, ⟨#[125]⟩, 0, 0⟩), ([102, 114, 97, 103, 109, 101, 110, 116], ⟨0, ⟨#[102, 114, 97, 103, 109, 101, 110, 116]⟩, 0, 0⟩), ([70], ⟨0, ⟨#[70]⟩, 0, 0⟩), ([111, 110], ⟨0, ⟨#[111, 110]⟩, 0, 0⟩), ([84], ⟨0, ⟨#[84]⟩, 0, 0⟩), ([123], ⟨3, ⟨#[123]⟩, 0, 0⟩), ([98], ⟨0, ⟨#[98]⟩, 0, 0⟩), ([125], ⟨3, ⟨#[125]⟩, 0, 0⟩)]
theorem bw2_ok : ∀ x ∈ bw2, Wd x.1 x.2 := by
  intro x hx
  unfold bw2 at hx
  simp only [List.mem_cons, List.not_mem_nil, or_false] at hx
  rcases hx with rfl | rfl | rfl | rfl | rfl | rfl | rfl | rfl | rfl | rfl | rfl | rfl | rfl | rfl | rfl | rfl | rfl | rfl | rfl | rfl | rfl
  · exact Wd.mark (by decide) (by decide) (by decide) (by decide) (by decide) (by decide) (by decide)
  · exact Wd.name (by decide) (by decide) (by decide) (by decide) (by decide)
  · exact Wd.mark (by decide) (by decide) (by decide) (by decide) (by decide) (by decide) (by decide)
  · exact Wd.name (by decide) (by decide) (by decide) (by decide) (by decide)
  · exact Wd.mark (by decide) (by decide) (by decide) (by decide) (by decide) (by decide) (by decide)
  · exact Wd.name (by decide) (by decide) (by decide) (by decide) (by decide)
  · exact Wd.mark (by decide) (by decide) (by decide) (by decide) (by decide) (by decide) (by decide)
  · exact Wd.name (by decide) (by decide) (by decide) (by decide) (by decide)
  · exact Wd.mark (by decide) (by decide) (by decide) (by decide) (by decide) (by decide) (by decide)
  · exact Wd.mark (by decide) (by decide) (by decide) (by decide) (by decide) (by decide) (by decide)
  · exact Wd.dots
  · exact Wd.name (by decide) (by decide) (by decide) (by decide) (by decide)
  · exact Wd.mark (by decide) (by decide) (by decide) (by decide) (by decide) (by decide) (by decide)
  · exact Wd.mark (by decide) (by decide) (by decide) (by decide) (by decide) (by decide) (by decide)
  · exact Wd.name (by decide) (by decide) (by decide) (by decide) (by decide)
  · exact Wd.name (by decide) (by decide) (by decide) (by decide) (by decide)
  · exact Wd.name (by decide) (by decide) (by decide) (by decide) (by decide)
  · exact Wd.name (by decide) (by decide) (by decide) (by decide) (by decide)
  · exact Wd.mark (by decide) (by decide) (by decide) (by decide) (by decide) (by decide) (by decide)
  · exact Wd.name (by decide) (by decide) (by decide) (by decide) (by decide)
  · exact Wd.mark (by decide) (by decide) (by decide) (by decide) (by decide) (by decide) (by decide)
def bwr (j : Nat) : List (List UInt8 × Tk) := match j with | 0 => bw0 | 1 => bw1 | _ => bw2
theorem bwr_ok (j : Nat) : (∀ x ∈ bwr j, Wd x.1 x.2) ∧ (bwr j).length ≤ 31 ∧ (∀ x ∈ bwr j, x.1.length ≤ 20) := by
  unfold bwr
  split
  · exact ⟨bw0_ok, by decide, by decide⟩
  · exact ⟨bw1_ok, by decide, by decide⟩
  · exact ⟨bw2_ok, by decide, by decide⟩
def plainT (j : Nat) : List UInt8 := gt ((List.replicate (bwr j).length 4).zip ((bwr j).map (·.1)))
def bD (j : Nat) : Dm := (parseL (plainT j)).1
def blaOk (j : Nat) : Bool := (parseL (plainT j)).2 == 0 && limD (bD j) && (parseL (prDoc (bD j))).2 == 0 && ((prDoc (parseL (prDoc (bD j))).1) == prDoc (bD j))
theorem plain_ok {j : Nat} (hj : j < 3) : (parseL (plainT j)).2 = 0 := by
  obtain rfl | rfl | rfl : j = 0 ∨ j = 1 ∨ j = 2 := by omega
  · kernel_rfl
  · kernel_rfl
  · kernel_rfl
theorem bD_lim {j : Nat} (hj : j < 3) : limD (bD j) = true := by
  obtain rfl | rfl | rfl : j = 0 ∨ j = 1 ∨ j = 2 := by omega
  · kernel_rfl
  · kernel_rfl
  · kernel_rfl
theorem bD_back {j : Nat} (hj : j < 3) : parseL (prDoc (bD j)) = (bD j, 0) := by
  obtain rfl | rfl | rfl : j = 0 ∨ j = 1 ∨ j = 2 := by omega
  · kernel_rfl
  · kernel_rfl
  · kernel_rfl
/-- Whatever blanks stand between: the document without them. -/
theorem bla_parse {j : Nat} (hj : j < 3) (cs : List Nat) (hl : cs.length = (bwr j).length) : parseL (gt (cs.zip ((bwr j).map (·.1)))) = (bD j, 0) := by
  obtain ⟨h1, h2, h3⟩ := bwr_ok j
  obtain ⟨ts, a1, a2⟩ := gt_tokens (bwr j) cs hl h1 (by omega) h3
  obtain ⟨us, b1, b2⟩ := gt_tokens (bwr j) (List.replicate (bwr j).length 4) (by simp) h1 (by omega) h3
  rw [parse_alike a1 b1 (a2.trans b2.symm)]
  show parseL (plainT j) = _
  rw [← plain_ok hj]
  rfl
end Go.Tt

/- The reference's Decimal, walked. -/
namespace Go.Proofs.YthaegncocdddfaaGreatDoor
set_option linter.unusedVariables false
set_option linter.unusedSimpArgs false
open Go.RowKit Go.Lib Go.Tt Go.Shelf
set_option maxRecDepth 100000 in
theorem conv_ow {w : World} {F : Nat → Prop} {o : Option Addr} {n c : Nat} {l : List UInt8} (O : Ow w F 5 eU8 (.slice o n c) l) (hl : l ≠ []) :
    (convert 58 9 (.slice o n c)).run Tryz.prog w = .ok (.string ⟨l.toArray⟩) w := by
  obtain ⟨rfl, -⟩ := O.cap
  rcases O with ⟨a, e, h⟩ | ⟨h, -⟩
  · exact absurd h hl
  · refine conv_own (B := 0) ?_
    rw [eU8_flat] at h
    exact h
/-- Digits laid so far: of n, where u is left. -/
def DInv (n u : Nat) (l : List UInt8) : Prop := (l = [] ∧ u = n) ∨ (l ≠ [] ∧ (if u = 0 then [] else Lib.decDigits u) ++ l = Lib.decDigits n)
theorem DInv.step {n u : Nat} {l : List UInt8} (h : DInv n u l) (hu : 0 < u ∨ l = []) : DInv n (u / 10) (UInt8.ofNat (48 + u % 10) :: l) := by
  refine .inr ⟨by simp, ?_⟩
  have key : (if u / 10 = 0 then [] else Lib.decDigits (u / 10)) ++ [UInt8.ofNat (48 + u % 10)] = Lib.decDigits u := by
    rw [Lib.decDigits.eq_1 u]
    by_cases h9 : u < 10
    · rw [if_pos (by omega), dif_pos h9, Nat.mod_eq_of_lt h9]; rfl
    · rw [if_neg (by omega), dif_neg h9]
  rw [List.append_cons, key]
  rcases h with ⟨rfl, rfl⟩ | ⟨h1, h2⟩
  · rw [List.append_nil]
  · have : u ≠ 0 := by rcases hu with h | h; exact (by omega); exact absurd h h1
    rw [if_neg this] at h2
    exact h2
theorem DInv.done {n : Nat} {l : List UInt8} (h : DInv n 0 l) (hl : l ≠ []) : l = Lib.decDigits n := by
  rcases h with ⟨h, -⟩ | ⟨-, h⟩
  · exact absurd h hl
  · rw [if_pos rfl] at h; exact h
theorem DInv.len {n u : Nat} {l : List UInt8} (h : DInv n u l) : l.length ≤ (Lib.decDigits n).length := by
  rcases h with ⟨rfl, -⟩ | ⟨-, h⟩
  · exact Nat.zero_le _
  · rw [← h, List.length_append]; omega
theorem dig_len {n : Nat} (hn : n ≤ 4611686018427387904) : (Lib.decDigits n).length ≤ 21 := by
  have := Lib.itoa_length_le (n : Int) (by omega) (by omega)
  rw [Lib.itoa, if_neg (by omega), Int.toNat_natCast] at this
  exact this
set_option maxHeartbeats 1000000 in
set_option maxRecDepth 100000 in
theorem refDecimal_ok (n : Nat) (hn : n ≤ 4611686018427387904) (w : World) : Calls Tryz.prog 18 #[.int .i64 n] w fun e w' => e = .returned (.string ⟨(Lib.decDigits n).toArray⟩) ∧ Frm No w w' := by
  have hn0 : ¬ ((n : Int) < 0) := by omega
  have hw : IntKind.u64.wrap (n : Int) = n := by rw [IntKind.wrap_u64]; omega
  have HL := Lib.hid (dig_len hn)
  go_enter Tryz.func18, Tryz.ntmps18
  go_wp2
  go_loopg [3, 4] (n + 1 + 1) (fun g xv ov wr => ∃ (u : Nat) (l : List UInt8) (o : Option Addr) (c : Nat), xv = .int .u64 u ∧ ov = .slice o l.length c ∧ g = u + (if l = [] then 1 else 0) + 1 ∧ u ≤ n ∧ DInv n u l ∧ Ow wr (fun k => w.heap.size ≤ k) 5 eU8 (.slice o l.length c) l ∧ Frm No w wr)
  case atStart => exact ⟨n, [], none, 0, rfl, rfl, by rw [if_pos rfl], Nat.le_refl _, .inl ⟨rfl, rfl⟩, Ow.nil _ _ _ _ _, Frm.refl No w⟩
  case round =>
    obtain ⟨u, l, o, c, rfl, rfl, hg, hun, hI, O, F⟩ := hrel
    have hG := Lib.hid hg
    have HI := Lib.hid hI
    clear hg
    have hll : l.length ≤ 21 := Nat.le_trans hI.len HL.out
    clear hI
    by_cases hu : 0 < u ∨ l = []
    · obtain ⟨r, hr⟩ : ∃ r, Hid (r = u % 10) := ⟨_, Lib.hid rfl⟩
      obtain ⟨q, hq⟩ : ∃ q, Hid (q = u / 10) := ⟨_, Lib.hid rfl⟩
      have hr9 : r < 10 := by have := hr.out; omega
      have h3 : (u : Int) % 10 = r := by have := hr.out; omega
      have h4 : (u : Int) / 10 = q := by have := hq.out; omega
      have h5 : IntKind.u64.wrap (48 + (r : Int)) = 48 + r := by rw [IntKind.wrap_u64]; omega
      have h6 : IntKind.u8.wrap (48 + (r : Int)) = 48 + r := by simp [IntKind.wrap, IntKind.bits, IntKind.signed]; omega
      have h7 : Int.tmod (u : Int) 10 = r := by rw [Int.tmod_eq_emod_of_nonneg (by omega)]; exact h3
      have h8 : Int.tdiv (u : Int) 10 = q := by rw [Int.tdiv_eq_ediv_of_nonneg (by omega)]; exact h4
      have h9 : IntKind.u64.wrap (r : Int) = r := by rw [IntKind.wrap_u64]; omega
      have h10 : IntKind.u64.wrap (q : Int) = q := by have := hq.out; rw [IntKind.wrap_u64]; omega
      obtain ⟨d, hd⟩ : ∃ d : UInt8, Hid (d = UInt8.ofNat (48 + r)) := ⟨_, Lib.hid rfl⟩
      have hu8 : Hid ((d.toNat : Int) = 48 + r) := Lib.hid (by rw [hd.out]; simp [UInt8.toNat_ofNat']; omega)
      have o0 : Ow (wr.alloc (.cells #[.int .u8 (48 + (r : Int))] 5 (0, 0))) (fun k => w.heap.size ≤ k ∧ wr.heap.size ≤ k) 5 eU8 (.slice (some ⟨wr.heap.size, 0, none⟩) 1 1) [d] :=
        Ow.row (l := [d]) (heap_alloc_new wr _) ⟨F.size, Nat.le_refl _⟩ (Nat.le_refl _) (by decide) rfl (by show [Value.int .u8 (48 + (r : Int))] = eU8.flat [d]; rw [← hu8.out]; rfl)
      have rd := (O.al (.cells #[.int .u8 (48 + (r : Int))] 5 (0, 0))).rd
      have hF := F.size
      have hcase : 0 < u ∨ ¬ 0 < u := Nat.lt_or_ge 0 u |>.imp id (by omega)
      rcases hcase with hp | hp
      · have hp' : 0 < (u : Int) := by omega
        clear hu
        go_wp2_with (at_builtin; refine wpList_ap _ rfl (.tmp 25) (.tmp 26) 58 58 rfl 5 _ 1 Tryz.underlying58 i_u8e rfl o0 (rd.src Tryz.underlying58) rfl rfl rfl (by show 1 + l.length ≤ maxLen; unfold maxLen; omega) (by show (1 + l.length) * 1 ≤ 140737488355328; omega) ?_)
        intro a1 c1 w1 o1 f1
        have F1 : Frm No w w1 := (F.al _).then f1 fun k hk hh => by omega
        go_wp2
        go_roundg (q + (if d :: l = [] then 1 else 0) + 1)
        case measure => have := hG.out; have := hq.out; rw [if_neg (by simp)]; omega
        case rel => exact ⟨q, d :: l, a1, c1, rfl, by rw [List.length_cons, Nat.add_comm], rfl, by have := hq.out; omega, by rw [hq.out, hd.out, hr.out]; exact HI.out.step (.inl hp), by rw [List.length_cons, Nat.add_comm l.length 1]; exact o1.mono fun k _ hh => by rcases hh with hh | hh; exact hh.1; have := hh.1; simp at this; omega, F1⟩
      · obtain rfl : u = 0 := by omega
        obtain rfl : l = [] := hu.resolve_left hp
        have hr0 : r = 0 := by have := hr.out; omega
        have hq0 : q = 0 := by have := hq.out; omega
        subst hr0 hq0
        clear hu hp h3 h4 h5 h7 h8 h9 h10
        go_wp2_with (at_builtin; refine wpList_ap _ rfl (.tmp 25) (.tmp 26) 58 58 rfl 5 _ 1 Tryz.underlying58 i_u8e rfl o0 (rd.src Tryz.underlying58) rfl rfl rfl (by show 1 + 0 ≤ maxLen; unfold maxLen; omega) (by show (1 + 0) * 1 ≤ 140737488355328; omega) ?_)
        intro a1 c1 w1 o1 f1
        have F1 : Frm No w w1 := (F.al _).then f1 fun k hk hh => by omega
        go_wp2
        go_roundg (0 + (if d :: [] = ([] : List UInt8) then 1 else 0) + 1)
        case measure => have := hG.out; simp at this ⊢; omega
        case rel => exact ⟨0, [d], a1, c1, rfl, rfl, rfl, Nat.zero_le _, by rw [hd.out]; exact HI.out.step (.inr rfl), o1.mono fun k _ hh => by rcases hh with hh | hh; exact hh.1; have := hh.1; simp at this; omega, F1⟩
    · have hu0 : u = 0 := by omega
      subst hu0
      have hl : l ≠ [] := fun e => hu (.inr e)
      have hl0 : ¬ (l.length : Int) = 0 := by cases l with | nil => exact absurd rfl hl | cons a l => simp; omega
      have hcv := conv_ow O hl
      have he := Lib.hid (HI.out.done hl)
      clear hu hl
      go_wp2
      go_ret
      exact ⟨congrArg (fun b : List UInt8 => Ending.returned (Value.string ⟨b.toArray⟩)) he.out, F⟩
end Go.Proofs.YthaegncocdddfaaGreatDoor

/- The law DocBlanks, walked. -/
namespace Go.Proofs.YthaegncocdddfaaGreatDoor
set_option linter.unusedVariables false
set_option linter.unusedSimpArgs false
open Go.RowKit Go.Lib Go.Tt
def blaObjs (h : Nat) : List Obj := [(.cells #[.string ⟨#[113, 117, 101, 114, 121]⟩, .string ⟨#[113]⟩, .string ⟨#[123]⟩, .string ⟨#[84]⟩, .string ⟨#[40]⟩, .string ⟨#[105, 100]⟩, .string ⟨#[58]⟩, .string ⟨#[34, 120, 34]⟩, .string ⟨#[41]⟩, .string ⟨#[123]⟩, .string ⟨#[97]⟩, .string ⟨#[98]⟩, .string ⟨#[125]⟩, .string ⟨#[125]⟩] 9 (0, 0)),
  (.cells #[.string ⟨#[109, 117, 116, 97, 116, 105, 111, 110]⟩, .string ⟨#[40]⟩, .string ⟨#[36]⟩, .string ⟨#[118]⟩, .string ⟨#[58]⟩, .string ⟨#[73, 110, 116]⟩, .string ⟨#[41]⟩, .string ⟨#[123]⟩, .string ⟨#[107]⟩, .string ⟨#[58]⟩, .string ⟨#[105, 110, 99]⟩, .string ⟨#[40]⟩, .string ⟨#[114, 101]⟩, .string ⟨#[58]⟩, .string ⟨#[36]⟩, .string ⟨#[118]⟩, .string ⟨#[41]⟩, .string ⟨#[125]⟩] 9 (0, 0)),
  (.cells #[.string ⟨#[123]⟩, .string ⟨#[97]⟩, .string ⟨#[64]⟩, .string ⟨#[115, 107, 105, 112]⟩, .string ⟨#[40]⟩, .string ⟨#[105, 102]⟩, .string ⟨#[58]⟩, .string ⟨#[116, 114, 117, 101]⟩, .string ⟨#[41]⟩, .string ⟨#[123]⟩, .string ⟨#[46, 46, 46]⟩, .string ⟨#[70]⟩, .string ⟨#[125]⟩, .string ⟨#[125]⟩, .string ⟨#[102, 114, 97, 103, 109, 101, 110, 116]⟩, .string ⟨#[70]⟩, .string ⟨#[111, 110]⟩, .string ⟨#[84]⟩, .string ⟨#[123]⟩, .string ⟨#[98]⟩, .string ⟨#[125]⟩] 9 (0, 0)),
  (.cells #[.slice (some ⟨h, 0, none⟩) 14 14, .slice (some ⟨h + 1, 0, none⟩) 18 18, .slice (some ⟨h + 2, 0, none⟩) 21 21] 43 (0, 0))]
theorem bla_row (w : World) {j : Nat} (hj : j < 3) : ∃ hb : Nat, (allocs w (blaObjs w.heap.size)).cell? ⟨w.heap.size + 3, j, none⟩ = some (.slice (some ⟨hb, 0, none⟩) (bwr j).length (bwr j).length) ∧ hb < (allocs w (blaObjs w.heap.size)).heap.size ∧ ∀ (i : Nat) (h : i < (bwr j).length), (allocs w (blaObjs w.heap.size)).cell? ⟨hb, i, none⟩ = some (.string ⟨((bwr j)[i].1).toArray⟩) := by
  have at_ := fun i o h => allocs_at (blaObjs w.heap.size) w i (o := o) h
  have b0 := at_ 0 _ rfl
  have b1 := at_ 1 _ rfl
  have b2 := at_ 2 _ rfl
  have b3 := at_ 3 _ rfl
  have key : ∀ (r : List (List UInt8 × Tk)) (k : Nat) (h : k < r.length), ((r.map fun x => Value.string ⟨x.1.toArray⟩).toArray)[k]? = some (.string ⟨(r[k].1).toArray⟩) := fun r k h => by
    rw [List.getElem?_toArray, List.getElem?_map, List.getElem?_eq_getElem h]
    rfl
  obtain rfl | rfl | rfl : j = 0 ∨ j = 1 ∨ j = 2 := by omega
  · exact ⟨_, (obj_cell b3 0).trans rfl, lt_of_block b0, fun i h => (obj_cell b0 i).trans (key bw0 i h)⟩
  · exact ⟨_, (obj_cell b3 1).trans rfl, lt_of_block b1, fun i h => (obj_cell b1 i).trans (key bw1 i h)⟩
  · exact ⟨_, (obj_cell b3 2).trans rfl, lt_of_block b2, fun i h => (obj_cell b2 i).trans (key bw2 i h)⟩
theorem zip_snoc {α β : Type} : ∀ (cs : List α) (W : List β) (c : α) (h : cs.length < W.length), (cs ++ [c]).zip W = cs.zip W ++ [(c, W[cs.length])]
  | [], w :: W, c, _ => by simp
  | a :: cs, w :: W, c, h => by
    have := zip_snoc cs W c (by simpa using h)
    simp only [List.cons_append, List.zip_cons_cons, this, List.length_cons, List.getElem_cons_succ]
theorem ba_app' (a b : List UInt8) : (⟨a.toArray⟩ : ByteArray) ++ (⟨b.toArray⟩ : ByteArray) = ⟨(a ++ b).toArray⟩ := by
  apply ByteArray.ext
  apply Array.toList_inj.1
  rw [ByteArray.data_append, Array.toList_append]
theorem gt_snoc {cs : List Nat} {W : List (List UInt8)} {c i : Nat} {xw : List UInt8} (hl : cs.length = i) (hw : W[i]? = some xw) : gt ((cs ++ [c]).zip W) = gt (cs.zip W) ++ blk c ++ xw ++ [32] := by
  obtain ⟨h, e⟩ := List.getElem?_eq_some_iff.1 hw
  subst hl
  rw [zip_snoc cs W c h, gt_app, e]
  show gt (cs.zip W) ++ (blk c ++ xw ++ 32 :: []) = _
  simp
theorem blkB (c : Nat) (hc : c < 4) : (#[Value.string ⟨#[32]⟩, .string ⟨#[44]⟩, .string ⟨#[10, 9]⟩, .string ⟨#[35, 123, 10]⟩] : Array Value)[c]? = some (.string ⟨(blk c).toArray⟩) := by
  obtain rfl | rfl | rfl | rfl : c = 0 ∨ c = 1 ∨ c = 2 ∨ c = 3 := by omega
  all_goals rfl
set_option maxHeartbeats 16000000 in
set_option maxRecDepth 100000 in
theorem blanks_law (n gap : Int) (w : World) (ht : Tab w) : Calls Tryz.prog 8 #[.int .i64 n, .int .i64 gap] w fun e w' => e = .returned (.bool true) ∧ Frm No w w' := by
  obtain ⟨R, hR⟩ : ∃ R : Ending → World → Prop, R = fun e w' => e = .returned (.bool true) ∧ Frm No w w' := ⟨_, rfl⟩
  rw [← hR]
  have HQ := Lib.hid hR
  have hnot : ∀ (x : Bool) (w : World), (Op.unary .not (.bool x)).run Tryz.prog w = .ok (.bool (!x)) w := fun _ _ => rfl
  clear hR
  have H0 := awake_ok w ht
  obtain ⟨j, hj, hjw⟩ := wmod n 3 (by decide) (by decide)
  have HK := Lib.hid hjw
  clear hjw
  go_enter Tryz.func8, Tryz.ntmps8
  go_wp2_with (fail)
  refine H0.mono ?_
  rintro e w0 ⟨rfl, f0⟩
  clear H0
  go_upto_region 4 with fail
  change Code.wp _ _ _ _ (allocs w0 (blaObjs w0.heap.size))
  obtain ⟨hb, cr, hbl, cw⟩ := bla_row w0 hj
  have cr : (allocs w0 (blaObjs w0.heap.size)).cell? ⟨w0.heap.size + 1 + 1 + 1, j, none⟩ = some (.slice (some ⟨hb, 0, none⟩) (bwr j).length (bwr j).length) := cr
  have F0 := f0.trans (allocs_frm (blaObjs w0.heap.size) w0)
  obtain ⟨-, hN, hw20⟩ := bwr_ok j
  generalize allocs w0 (blaObjs w0.heap.size) = W0 at cr hbl cw F0 ⊢
  obtain ⟨N, hNe⟩ : ∃ N, N = (bwr j).length := ⟨_, rfl⟩
  rw [← hNe] at cr hN
  have hjw : wrap64 ((IntKind.u64.wrap n).tmod 3) = (j : Int) := HK.out
  have HCW := Lib.hid cw
  have HN := Lib.hid hNe
  have HW := Lib.hid hw20
  clear f0 cw hNe hw20 HK
  go_upto_region 5 with fail
  clear hjw cr
  go_wp2_with (fail)
  go_loopg [7, 8, 9] (N + 1) (fun g sv tv iv wr => ∃ (i : Nat) (cs : List Nat), iv = .int .i64 i ∧ sv = .string ⟨(gt ((List.replicate i 4).zip ((bwr j).map (·.1)))).toArray⟩ ∧ tv = .string ⟨(gt (cs.zip ((bwr j).map (·.1)))).toArray⟩ ∧ cs.length = i ∧ g = N - i + 1 ∧ i ≤ N ∧ Frm No W0 wr)
  case atStart => exact ⟨0, [], rfl, rfl, rfl, rfl, rfl, Nat.zero_le _, Frm.refl _ _⟩
  case round =>
    obtain ⟨i, cs, rfl, rfl, rfl, hcs, hg, hi, f⟩ := hrel
    have HG := Lib.hid hg
    have HC := Lib.hid hcs
    clear hg hcs
    have szl : ∀ ds : List Nat, (gt (ds.zip ((bwr j).map (·.1)))).length ≤ 744 := fun ds => by
      have h1 := gt_len (K := 20) (ds.zip ((bwr j).map (·.1))) fun x hx => by
        obtain ⟨y, hy, e⟩ := List.mem_map.1 (List.of_mem_zip hx).2
        rw [← e]
        exact HW.out y hy
      have h2 : (ds.zip ((bwr j).map (·.1))).length ≤ 31 := by
        rw [List.length_zip, List.length_map]
        have := HN.out
        omega
      have h3 : (ds.zip ((bwr j).map (·.1))).length * (20 + 4) ≤ 31 * (20 + 4) := Nat.mul_le_mul_right _ h2
      omega
    obtain ⟨s, hs⟩ : ∃ s : ByteArray, s = ⟨(gt ((List.replicate i 4).zip ((bwr j).map (·.1)))).toArray⟩ := ⟨_, rfl⟩
    obtain ⟨t, htt⟩ : ∃ t : ByteArray, t = ⟨(gt (cs.zip ((bwr j).map (·.1)))).toArray⟩ := ⟨_, rfl⟩
    rw [← hs, ← htt]
    have zs : s.size ≤ 744 := by rw [hs, sz_list]; exact szl _
    have zt : t.size ≤ 744 := by rw [htt, sz_list]; exact szl _
    have HS := Lib.hid hs
    have HT := Lib.hid htt
    clear hs htt szl
    by_cases hlt : i < N
    · have hltw : i < (bwr j).length := by have := HN.out; omega
      obtain ⟨xw, hxw⟩ : ∃ xw, xw = (bwr j)[i].1 := ⟨_, rfl⟩
      obtain ⟨x, hx⟩ : ∃ x : ByteArray, x = ⟨xw.toArray⟩ := ⟨_, rfl⟩
      have cx : wr.cell? ⟨hb, i, none⟩ = some (.string x) := by
        rw [f.cell (p := ⟨hb, i, none⟩) hbl id, HCW.out i hltw, hx, hxw]
      have zx : x.size ≤ 20 := by rw [hx, sz_list, hxw]; exact HW.out _ (List.getElem_mem hltw)
      have hwi : ((bwr j).map (·.1))[i]? = some xw := by rw [List.getElem?_map, List.getElem?_eq_getElem hltw, hxw]; rfl
      have HX := Lib.hid hx
      have HWI := Lib.hid hwi
      clear hxw hwi
      obtain ⟨c, hc4, hcq⟩ : ∃ c : Nat, c < 4 ∧ (gap / 2 ^ i) % 4 = (c : Int) := by
        have h1 := Int.emod_nonneg (gap / 2 ^ i) (b := 4) (by decide)
        have h2 := Int.emod_lt_of_pos (gap / 2 ^ i) (b := 4) (by decide)
        exact ⟨((gap / 2 ^ i) % 4).toNat, by omega, by omega⟩
      obtain ⟨b, hbk⟩ : ∃ b : ByteArray, b = ⟨(blk c).toArray⟩ := ⟨_, rfl⟩
      have zb : b.size ≤ 3 := by rw [hbk, sz_list]; exact blk_len c
      have hnm : (wr.alloc (.cells #[.string ⟨#[32]⟩, .string ⟨#[44]⟩, .string ⟨#[10, 9]⟩, .string ⟨#[35, 123, 10]⟩] 9)).cell? ⟨wr.heap.size, c, none⟩ = some (.string b) := by
        rw [obj_cell (heap_alloc_new wr _), blkB c hc4, hbk]
      have HB := Lib.hid hbk
      have HC4 := Lib.hid hc4
      clear hbk
      have HLT := Lib.hid hlt
      have hbr : hb < wr.heap.size := Nat.lt_of_lt_of_le hbl f.size
      have h31 := and_31
      have h3 := and_3
      have hi32 : ((i : Int) % 32) = i := by omega
      clear hx hltw
      go_upto_block 1 with fail
      go_cut [7, 8] (fun s7 s8 wx => s7 = .string (s ++ x ++ ⟨#[32]⟩) ∧ ∃ c : Nat, c < 4 ∧ s8 = .string (t ++ ⟨(blk c).toArray⟩ ++ x ++ ⟨#[32]⟩) ∧ Frm No W0 wx)
      case first =>
        go_upto_region 10 with fail
        refine wp_region_fork (.seg [0, 2, 3, 11, 12, 13, 14] [] (.fork 1 [14] (.seg [4] [14] (.seg [5] [14] (.seg [6] [14] (.seg [7] [14] (.seg [8, 9, 10] [14] (.seg [15] [] (.seg [16] [] (.seg [17] [] .nil)))))))) 4 [14] (.fork 1 [14] (.seg [5] [14] (.seg [6] [14] (.seg [7] [14] (.seg [8, 9, 10] [14] (.seg [15] [] (.seg [16] [] (.seg [17] [] .nil))))))) 5 [14] (.fork 1 [14] (.seg [6] [14] (.seg [7] [14] (.seg [8, 9, 10] [14] (.seg [15] [] (.seg [16] [] (.seg [17] [] .nil)))))) 6 [14] (.fork 1 [14] (.seg [7] [14] (.seg [8, 9, 10] [14] (.seg [15] [] (.seg [16] [] (.seg [17] [] .nil))))) 7 [14] (.seg [1] [14] (.seg [8, 9, 10] [14] (.seg [15] [] (.seg [16] [] (.seg [17] [] .nil)))))))))) 96 (by kernel_rfl) (by kernel_rfl) (by simp) ?_
        intro N hN
        simp only [wpST, wpSg, List.map_cons, List.map_nil, List.getD_cons_zero, List.getD_cons_succ]
        go_wp2_with (fail)
        refine ⟨?_, ?_⟩
        · go_wp2_with (fail)
          refine ⟨again_of rfl rfl ?_, ?_⟩
          · go_simp
          go_wp2_with (fail)
          refine ⟨again_of rfl rfl ?_, ?_⟩
          · go_simp
          go_wp2_with (fail)
          refine ⟨again_of rfl rfl ?_, ?_⟩
          · go_simp
          go_wp2_with (fail)
          refine ⟨again_of rfl rfl ?_, ?_⟩
          · go_simp
          go_wp2_with (fail)
          refine ⟨again_of rfl rfl ?_, ?_⟩
          · go_simp
          go_wp2_with (fail)
          refine ⟨again_of rfl rfl ?_, ?_⟩
          · go_simp
          go_wp2_with (fail)
          go_meet
          exact ⟨rfl, c, HC4.out, by rw [HB.out], (f.al _).dr 1⟩
        · go_wp2_with (fail)
          refine ⟨again_of rfl rfl ?_, ?_⟩
          · go_simp
          go_wp2_with (fail)
          refine ⟨?_, ?_⟩
          · go_wp2_with (fail)
            refine ⟨again_of rfl rfl ?_, ?_⟩
            · go_simp
            go_wp2_with (fail)
            refine ⟨again_of rfl rfl ?_, ?_⟩
            · go_simp
            go_wp2_with (fail)
            refine ⟨again_of rfl rfl ?_, ?_⟩
            · go_simp
            go_wp2_with (fail)
            refine ⟨again_of rfl rfl ?_, ?_⟩
            · go_simp
            go_wp2_with (fail)
            refine ⟨again_of rfl rfl ?_, ?_⟩
            · go_simp
            go_wp2_with (fail)
            go_meet
            exact ⟨rfl, c, HC4.out, by rw [HB.out], (f.al _).dr 1⟩
          · go_wp2_with (fail)
            refine ⟨again_of rfl rfl ?_, ?_⟩
            · go_simp
            go_wp2_with (fail)
            refine ⟨?_, ?_⟩
            · go_wp2_with (fail)
              refine ⟨again_of rfl rfl ?_, ?_⟩
              · go_simp
              go_wp2_with (fail)
              refine ⟨again_of rfl rfl ?_, ?_⟩
              · go_simp
              go_wp2_with (fail)
              refine ⟨again_of rfl rfl ?_, ?_⟩
              · go_simp
              go_wp2_with (fail)
              refine ⟨again_of rfl rfl ?_, ?_⟩
              · go_simp
              go_wp2_with (fail)
              go_meet
              exact ⟨rfl, c, HC4.out, by rw [HB.out], (f.al _).dr 1⟩
            · go_wp2_with (fail)
              refine ⟨again_of rfl rfl ?_, ?_⟩
              · go_simp
              go_wp2_with (fail)
              refine ⟨?_, ?_⟩
              · go_wp2_with (fail)
                refine ⟨again_of rfl rfl ?_, ?_⟩
                · go_simp
                go_wp2_with (fail)
                refine ⟨again_of rfl rfl ?_, ?_⟩
                · go_simp
                go_wp2_with (fail)
                refine ⟨again_of rfl rfl ?_, ?_⟩
                · go_simp
                go_wp2_with (fail)
                go_meet
                exact ⟨rfl, c, HC4.out, by rw [HB.out], (f.al _).dr 1⟩
              · go_wp2_with (fail)
                refine ⟨again_of rfl rfl ?_, ?_⟩
                · go_simp
                go_wp2_with (fail)
                refine ⟨again_of rfl rfl ?_, ?_⟩
                · go_simp
                go_wp2_with (fail)
                refine ⟨again_of rfl rfl ?_, ?_⟩
                · go_simp
                go_wp2_with (fail)
                go_meet
                exact ⟨rfl, c, HC4.out, by rw [HB.out], (f.al _).dr 1⟩
      case rest =>
        obtain ⟨rfl, c2, hc2, rfl, fx⟩ := hcut
        clear hnm hc2 hcq cx
        go_wp2_with (fail)
        go_roundg (N - (i + 1) + 1)
        case measure => have := HG.out; have := HLT.out; omega
        case rel =>
          have hwi := HWI.out
          refine ⟨i + 1, cs ++ [c2], by go_num, ?_, ?_, by rw [List.length_append, HC.out]; rfl, rfl, HLT.out, fx⟩
          · rw [show List.replicate (i + 1) 4 = List.replicate i 4 ++ [4] from by rw [List.replicate_succ']]
            rw [gt_snoc (by simp) hwi, HS.out, HX.out]
            rw [show (⟨#[32]⟩ : ByteArray) = ⟨([32] : List UInt8).toArray⟩ from rfl, ba_app', ba_app']
            simp [blk]
          · rw [gt_snoc HC.out hwi, HT.out, HX.out]
            rw [show (⟨#[32]⟩ : ByteArray) = ⟨([32] : List UInt8).toArray⟩ from rfl, ba_app', ba_app', ba_app']
    · obtain rfl : i = N := by omega
      clear hlt HG hi
      have hN2 := HN.out
      have hp1 := bla_parse hj (List.replicate i 4) (by rw [List.length_replicate, hN2])
      have hp2 := bla_parse hj cs (by rw [HC.out, hN2])
      have hsl : s.data.toList = gt ((List.replicate i 4).zip ((bwr j).map (·.1))) := by rw [HS.out]
      have htl : t.data.toList = gt (cs.zip ((bwr j).map (·.1))) := by rw [HT.out]
      have H1 := parse_c s wr (by omega)
      have hpi : DmI (parseL s.data.toList).1 := parse_i s.data.toList
      have hpl := parse_len s.data.toList
      rw [hsl, hp1] at H1 hpi hpl
      have hp2' : parseL t.data.toList = (bD j, 0) := by rw [htl, hp2]
      have HP2 := Lib.hid hp2'
      have HLIM := Lib.hid (bD_lim hj)
      have HBK := Lib.hid (bD_back hj)
      have HPL := Lib.hid hpl
      have HPI := Lib.hid hpi
      have hno := prDoc_ne (bD j)
      have HNO := Lib.hid hno
      have G0 := F0.trans f
      generalize bD j = D at H1 HP2 HLIM HBK HPL HPI HNO
      clear hp1 hp2 hsl htl hp2' hpl hpi hno hN2 HN HS HT HC HCW HW
      go_wp2_with (fail)
      refine H1.mono ?_
      rintro e w1 ⟨v1, rfl, O1, f1⟩
      have D1 := O1.rd
      obtain ⟨W1, hW1⟩ : ∃ W, W = w1.alloc (docB v1) := ⟨_, rfl⟩
      have X1 : W1.heap[w1.heap.size]? = some (docB v1) := by rw [hW1]; exact heap_alloc_new w1 _
      have F1 : Frm No w1 W1 := by rw [hW1]; exact (Frm.refl No w1).al _
      have D2 := D1.frm F1 fun _ _ _ h => h
      have G1 := (G0.trans f1).trans F1
      have hsz1 := F1.size
      have HX1 := Lib.hid X1
      have H2 := parse_c t W1 (by omega)
      rw [HP2.out] at H2
      unfold docB at hW1
      unfold dval
      clear X1 D1 f1 F1 H1 O1 G0 f
      go_upto_region 12 with fail
      rw [← hW1]
      clear hW1
      go_wp2_with (fail)
      refine H2.mono ?_
      rintro e w2 ⟨v2, rfl, O2, f2⟩
      have E2 := O2.rd
      obtain ⟨W2, hW2⟩ : ∃ W, W = w2.alloc (docB v2) := ⟨_, rfl⟩
      have Y2 : W2.heap[w2.heap.size]? = some (docB v2) := by rw [hW2]; exact heap_alloc_new w2 _
      have F2 : Frm No w2 W2 := by rw [hW2]; exact (Frm.refl No w2).al _
      have X2 := (f2.trans F2).obj HX1.out id
      have D3 := D2.frm (f2.trans F2) fun _ _ _ h => h
      have E3 := E2.frm F2 fun _ _ _ h => h
      have G2 := (G1.trans f2).trans F2
      have hsz2 := (f2.trans F2).size
      have H3 := print_ok D3 (fun k hk => Nat.lt_of_lt_of_le hk.2 (Nat.le_trans hsz1 hsz2)) HPI.out (ht.frm G2) HPL.out
      have HX2 := Lib.hid X2
      have HY2 := Lib.hid Y2
      have p0 := obj_cell X2 0
      have p1 := obj_cell X2 1
      have p2 := obj_cell X2 2
      have p3 := obj_cell X2 3
      simp only [List.getElem?_toArray, List.getElem?_cons_succ, List.getElem?_cons_zero] at p0 p1 p2 p3
      have l1 := lt_of_block X2
      unfold docB at hW2
      unfold dval at H3 ⊢
      clear X2 Y2 E2 F2 f2 D2 H2 O2 G1 HX1
      go_upto_region 13 with fail
      rw [← hW2]
      clear hW2
      go_wp2_with (fail)
      refine H3.mono ?_
      rintro e w3 ⟨q, e3, rfl, hP, f3⟩
      have hq : q = ⟨(prDoc D).toArray⟩ ∧ e3 = 0 := by
        rcases hP with ⟨-, a, b⟩ | ⟨h, -, -⟩
        · exact ⟨a, b⟩
        · exact absurd ⟨HLIM.out, HBK.out⟩ h
      obtain ⟨hq, rfl⟩ := hq
      have hqe : q.toList.isEmpty = false := by
        rw [emp_eq, hq]
        unfold eqB
        show ((prDoc D) == []) = false
        rw [beq_eq_false_iff_ne]
        exact HNO.out
      have X3 := f3.obj HX2.out id
      have Y3 := f3.obj HY2.out id
      have D4 := D3.frm f3 fun _ _ _ h => h
      have E4 := E3.frm f3 fun _ _ _ h => h
      have G3 := G2.trans f3
      have HSM := sameDoc_ok D4 E4
      have q0 := obj_cell X3 0
      have q1 := obj_cell X3 1
      have q2 := obj_cell X3 2
      have q3 := obj_cell X3 3
      have r0 := obj_cell Y3 0
      have r1 := obj_cell Y3 1
      have r2 := obj_cell Y3 2
      have r3 := obj_cell Y3 3
      have l3 := lt_of_block X3
      have l4 := lt_of_block Y3
      simp only [List.getElem?_toArray, List.getElem?_cons_succ, List.getElem?_cons_zero] at q0 q1 q2 q3 r0 r1 r2 r3
      unfold dval at HSM
      clear H3 p0 p1 p2 p3 l1 f3 HX2 HY2 X3 Y3 D3 E3 D4 E4 hP G2 hsz1 hsz2 hq
      go_wp2_with (go_at_call 15; refine (num_ok _ _).mono ?_; rintro e w' ⟨rfl, rfl⟩)
      refine HSM.mono ?_
      rintro e w4 ⟨rfl, f4⟩
      have G4 := G3.trans f4
      clear HSM f4 q0 q1 q2 q3 r0 r1 r2 r3 l3 l4
      go_wp2_with (go_at_call 15; refine (num_ok _ _).mono ?_; rintro e w' ⟨rfl, rfl⟩)
      rw [HQ.out]
      exact ⟨rfl, G4⟩
end Go.Proofs.YthaegncocdddfaaGreatDoor

/- The walk of DocBlanks, as its row wants it. -/
namespace Go.Proofs.YthaegncocdddfaaGreatDoor
set_option linter.unusedVariables false
set_option linter.unusedSimpArgs false
open Go.RowKit Go.Lib Go.Tt
theorem blanks_row (W : World) (ht : Tab W) (n : Int) (_ : (Lit.int .i64 n).wf = true) (x : Int) (_ : (Lit.int .i64 x).wf = true) : Calls Tryz.prog 8 #[.int .i64 n, .int .i64 x] W fun e W' => e = .returned (.bool true) ∧ Below W.heap.size W W' :=
  (blanks_law n x W ht).mono fun _ _ h => ⟨h.1, h.2.below (fun _ _ h => h) (Nat.le_refl _)⟩
end Go.Proofs.YthaegncocdddfaaGreatDoor

/- The card of tattlelaw15.DocBlanks. -/
namespace Go.Proofs.YthaegncocdddfaaGreatDoor.docBlanks
set_option linter.unusedVariables false
set_option linter.unusedSimpArgs false
open Go.ChangeShapes Go.WideShapes Go.ChangeAt Go.RowKit Go.Tt
open Go.ChangeMaps (open_string shut_string)
set_option linter.unusedVariables false
set_option maxRecDepth 100000 in
theorem contract (H : Type) (enc : TypeId × Value → H) (W : World) (base : Nat) (args : Array Value) (ds gs : List (DataW H)) (before : List MemPlace)
    (hval0 : ∀ (j : Nat) t v, Tryz.f8.params[j]? = some t → args[j]? = some v → Value.okWide Tryz.prog W .any base t v)
    (hW : DataW.Whole enc Tryz.prog Tryz.f8.params.toList Rows.docBlanksSpec.vars false W args.toList ds gs before)
    (hsz0 : (DataW.weightsEach Tryz.prog (Tryz.f8.params.toList ++ Rows.docBlanksSpec.plain.varTypes Tryz.prog) (ds ++ gs)).all (· ≤ reachBytes) = true)
    (hL : laidMetH Tryz.prog tabs W) :
    Calls Tryz.prog 8 args W fun e W' => ∃ v, e = .returned v ∧ Rows.docBlanksSpec.post enc Tryz.prog Tryz.f8 false true false false W args v W' := by
  have hval : ∀ (j : Nat) t v, Tryz.f8.params[j]? = some t → args[j]? = some v → Value.okWide Tryz.prog W .any base t v := hval0
  have hW' := hW
  obtain ⟨p, q, hA0, hV, rfl, hfz, hnd⟩ := hW
  have hA : DataW.TrodAll enc Tryz.prog W 0 (fun _ => true) true Tryz.f8.params.toList args.toList ds p := hA0
  rw [Tryz.params8] at hA hval
  have hB := hA
  obtain ⟨v0, vs0, d0, ds0, p0, q0, hargs, rfl, rfl, h0, r0⟩ := trodAll_cons hA
  obtain ⟨v1, vs1, d1, ds1, p1, q1, rfl, rfl, rfl, h1, r1⟩ := trodAll_cons r0
  obtain ⟨rfl, rfl, rfl⟩ := trodAll_nil r1
  obtain rfl : args = #[v0, v1] := by cases args; simp_all
  obtain ⟨rfl, rfl⟩ := trodVars_none hV
  obtain ⟨a0, rfl, e0, _, w0⟩ := open_int Tryz.underlying3 (hval 0 3 v0 rfl rfl) h0
  obtain ⟨a1, rfl, e1, _, w1⟩ := open_int Tryz.underlying3 (hval 1 3 v1 rfl rfl) h1
  refine (blanks_row W (table hL) a0 w0 a1 w1).mono fun e W' ⟨he, bel⟩ => ?_
  subst he
  exact ⟨_, rfl, _, _, _, [], _, [], hW', trodAll_mk1 (shut_bool Tryz.underlying4 _), below_trodAll laidOut bel (by kernel_rfl) hB (trodAll_lt hB), rfl, bel.frame _, fun h => by cases h⟩
theorem laid_met (os : Os) : laidMet Tryz.prog Rows.docBlanksRow.laid ((laidWorld os).forCall (fun _ _ => 0) ⟨#[], #[.int .i64 0, .int .i64 0], []⟩).memory :=
  laidMet_of_run' 8 (by kernel_rfl) (by kernel_rfl)
noncomputable def rdW (os : Os) {H : Type} (enc : TypeId × Value → H) : Option (List (DataW H) × List (DataW H) × List MemPlace) := DataW.whole enc Tryz.prog ((laidWorld os).forCall (fun _ _ => 0) ⟨#[], #[.int .i64 0, .int .i64 0], []⟩).memory Tryz.f8.params.toList Rows.docBlanksSpec.vars false (#[.int .i64 0, .int .i64 0] : Array Value).toList 8
theorem rdW_some (os : Os) {H : Type} (enc : TypeId × Value → H) : (rdW os enc).isSome = true := by kernel_rfl
theorem reads (os : Os) {H : Type} (enc : TypeId × Value → H) : rdW os enc = some (((rdW os enc).get (rdW_some os enc)).1, ((rdW os enc).get (rdW_some os enc)).2.1, ((rdW os enc).get (rdW_some os enc)).2.2) := get_parts (rdW os enc) (rdW_some os enc)
set_option maxRecDepth 100000 in
theorem lifted (os : Os) (started : os.Started) (H : Type) (enc : TypeId × Value → H) (G : Stop.Interp) :
    ReturnsInHanded {} Tryz.checked os 8 .any ((OpenSpec.ofChange Rows.docBlanksSpec).preRow enc Tryz.prog Tryz.f8 Rows.docBlanksRow.domain false Rows.docBlanksRow.laid) (((OpenSpec.ofChange Rows.docBlanksSpec).at G).post enc Tryz.prog Tryz.f8 false true false false) := by
  have hx := reads os enc
  refine returnsInHanded_of_row (C := Tryz.checked) (s := OpenSpec.ofChange Rows.docBlanksSpec) own started (by kernel_rfl) Tryz.func8
    (witness_row_at (enc := enc) (C := Tryz.checked) false (laidWorld os) #[.int .i64 0, .int .i64 0] rfl (by kernel_rfl) (by kernel_rfl) (by kernel_rfl) (OpenSpec.preRow_of_cond 8 hx (by kernel_rfl) (fun k hk => by cases hk) (by kernel_rfl) (laid_met os))) ?_
  intro W base args ds gs before hval hW _ hcond hsz hL _ _
  exact contract H enc W base args ds gs before hval hW hsz hL
theorem said : Rows.DocBlanksSaid :=
  OpenClaim.holds_of_cond 8 Tryz.f8 rfl rfl rfl rfl rfl rfl rfl ⟨rfl, rfl, rfl, rfl, rfl⟩ rfl rfl rfl rfl rfl (by kernel_rfl) Tryz.func8 (by kernel_rfl)
    (of_decide_eq_true (by kernel_rfl)) (by unfold Func.isWrapper; first | (rw [if_pos (by decide +kernel)]; kernel_rfl) | (rw [if_neg (by decide +kernel)]; exact ⟨rfl, rfl⟩))
    (fun os started H enc _ G => by rw [OpenClaim.pre_eq_preRow]; exact lifted os started H enc G)
theorem plain (f : FuncId) (fn : Func) (hf : Tryz.pinned.checked.prog.funcNamed "tattle/tattlelaw15.DocBlanks" = some f) (hfn : Tryz.pinned.checked.prog.funcs[f]? = some fn) :
    true = Tryz.pinned.checked.prog.looks [] ∧ ∀ (j : Nat) t, fn.params[j]? = some t → Tryz.pinned.checked.prog.wantsStandIn t = false := by
  obtain rfl : f = 8 := Option.some.inj ((show Tryz.prog.funcNamed "tattle/tattlelaw15.DocBlanks" = some 8 by kernel_rfl).symm.trans hf) |>.symm
  obtain rfl : fn = Tryz.f8 := (Option.some.inj (Tryz.func8.symm.trans hfn)).symm
  refine ⟨by kernel_rfl, fun j t ht => ?_⟩
  rw [Tryz.params8] at ht
  have ht := Array.mem_of_getElem? ht
  simp only [List.mem_toArray, List.mem_cons, List.not_mem_nil, or_false] at ht
  rcases ht with rfl | rfl
  · exact (show Tryz.prog.wantsStandIn 3 = false by kernel_rfl)
  · exact (show Tryz.prog.wantsStandIn 3 = false by kernel_rfl)
theorem card : Rows.DocBlanksCardSaid :=
  Claim7.holds_tied_plain_at .later [] _ _ _ _ said (fun _ h => by cases h) (by kernel_rfl) (fun _ h => by cases h) docBlanks_row_tie rfl ⟨rfl, rfl⟩ (by kernel_rfl) rfl plain (by kernel_rfl)
end Go.Proofs.YthaegncocdddfaaGreatDoor.docBlanks
namespace Go.Proofs.YthaegncocdddfaaGreatDoor
set_option linter.unusedVariables false
set_option linter.unusedSimpArgs false
/-- The card, under a short name, for the claim. -/
theorem docBlanks_holds : Rows.DocBlanksCardSaid := docBlanks.card
#print axioms docBlanks_holds
end Go.Proofs.YthaegncocdddfaaGreatDoor

/- Merged: Law9 SetC FnL DelL. -/
import Derived.Test.YtgpdpalhkkjmiaaGreatDoorV06
import Derived.Test.YtgpdpalhkkjmiaaGreatDoorV07
import Derived.Test.YtgpdpalhkkjmiaaGreatDoorV10
/- Sets' plain laws: values in their row, each once. No program in sight. -/
namespace Go.Proofs.YtgpdpalhkkjmiaaGreatDoor
set_option linter.unusedVariables false
set_option linter.unusedSimpArgs false
set_option linter.unusedVariables false
set_option linter.unusedSimpArgs false
open Go.RowKit Go.Lib Go.Tt
/-- A text's bytes come ahead of another's. -/
def ltB (x y : ByteArray) : Prop := x.data.toList < y.data.toList
theorem leL_trans (a b c : List UInt8) (h1 : decide (a ≤ b) = true) (h2 : decide (b ≤ c) = true) : decide (a ≤ c) = true := decide_eq_true (List.le_trans (of_decide_eq_true h1) (of_decide_eq_true h2))
theorem leL_total (a b : List UInt8) : (decide (a ≤ b) || decide (b ≤ a)) = true := by
  rcases List.le_total (α := UInt8) a b with h | h <;> simp [h]
theorem sort_pw (l : List (List UInt8)) : (l.mergeSort fun x y => decide (x ≤ y)).Pairwise fun x y => x ≤ y :=
  (List.pairwise_mergeSort leL_trans leL_total l).imp fun h => of_decide_eq_true h
theorem ltL_of {a b : List UInt8} (h : a ≤ b) (hne : a ≠ b) : a < b := by
  rcases Classical.em (a < b) with h' | h'
  · exact h'
  · exact absurd (List.le_antisymm h (List.not_lt.1 h')) hne
theorem data_inj {x y : ByteArray} (h : x.data.toList = y.data.toList) : x = y := by
  cases x; cases y; simp_all [Array.toList_inj]
theorem sortB_pw (l : List ByteArray) : (sortB l).Pairwise fun x y => x.data.toList ≤ y.data.toList := by
  unfold sortB
  rw [List.pairwise_map]
  exact (sort_pw _).imp fun h => by simpa using h
theorem mem_sortB {l : List ByteArray} {x : ByteArray} : x ∈ sortB l ↔ x ∈ l := by
  unfold sortB
  simp only [List.mem_map, List.mem_mergeSort]
  constructor
  · rintro ⟨b, ⟨y, hy, rfl⟩, rfl⟩
    have : (⟨y.data.toList.toArray⟩ : ByteArray) = y := by simp
    rw [this]; exact hy
  · intro h
    exact ⟨_, ⟨x, h, rfl⟩, by simp⟩
theorem get!_of {l : List ByteArray} {j : Nat} (h : j < l.length) : l.toArray[j]! = l[j] := by simp [h]
theorem mem_compact {l : List ByteArray} {x : ByteArray} : x ∈ Lib.compact l ↔ x ∈ l := by
  unfold Lib.compact Lib.compactUpTo
  simp only [List.mem_map, List.mem_filter, List.mem_range]
  constructor
  · rintro ⟨j, ⟨hj, -⟩, rfl⟩
    rw [get!_of hj]; exact List.getElem_mem hj
  · intro h
    obtain ⟨j0, hj0, e0⟩ := List.getElem_of_mem h
    have key : ∀ (j : Nat) (hj : j < l.length), l[j] = x → ∃ k, (k < l.length ∧ Lib.keeps l.toArray k = true) ∧ l.toArray[k]! = x := by
      intro j
      induction j with
      | zero => intro hj e; exact ⟨0, ⟨hj, by simp [Lib.keeps]⟩, by rw [get!_of hj, e]⟩
      | succ j ih =>
        intro hj e
        by_cases h1 : l[j] = x
        · exact ih (by omega) h1
        · refine ⟨j + 1, ⟨hj, ?_⟩, by rw [get!_of hj, e]⟩
          unfold Lib.keeps
          refine decide_eq_true (.inr ?_)
          rw [get!_of hj, get!_of (by omega : j + 1 - 1 < l.length), e]
          exact fun e' => h1 e'.symm
    exact key j0 hj0 e0
theorem compact_pw {l : List ByteArray} (h : l.Pairwise fun x y => x.data.toList ≤ y.data.toList) : (Lib.compact l).Pairwise ltB := by
  unfold Lib.compact Lib.compactUpTo
  rw [List.pairwise_map]
  have hr : (List.range l.length).Pairwise (· < ·) := List.pairwise_lt_range
  refine List.Pairwise.imp_of_mem (R := fun i j => i < j) ?_ (hr.filter _)
  intro i j hi hj hij
  obtain ⟨hj1, hj2⟩ := List.mem_filter.1 hj
  have hjl := List.mem_range.1 hj1
  have hk := of_decide_eq_true hj2
  rcases hk with hk | hk
  · omega
  · rw [get!_of hjl, get!_of (by omega : j - 1 < l.length)] at hk
    rw [get!_of hjl, get!_of (by omega : i < l.length)]
    have hp := List.pairwise_iff_getElem.1 h
    have h1 : l[j - 1].data.toList ≤ l[j].data.toList := hp _ _ _ _ (by omega)
    have h2 : l[j - 1].data.toList < l[j].data.toList := ltL_of h1 fun e => hk (data_inj e.symm)
    rcases Nat.lt_or_ge i (j - 1) with h3 | h3
    · have h4 : l[i].data.toList ≤ l[j - 1].data.toList := hp _ _ _ _ h3
      exact List.lt_of_le_of_lt h4 h2
    · have : i = j - 1 := by omega
      subst this
      exact h2
theorem valsOf_pw (l : List En) : (valsOf l).Pairwise ltB := compact_pw (sortB_pw _)
theorem mem_valsOf {l : List En} {x : ByteArray} : x ∈ valsOf l ↔ ∃ e ∈ l, e.2.2 = x := by
  unfold valsOf
  rw [mem_compact, mem_sortB, List.mem_map]
theorem ltB_irrefl (x : ByteArray) : ¬ ltB x x := List.lt_irrefl _
theorem ltB_asymm {x y : ByteArray} (h : ltB x y) : ¬ ltB y x := List.lt_asymm h
/-- One row of texts has just one strict order. -/
theorem pw_unique : ∀ {a b : List ByteArray}, a.Pairwise ltB → b.Pairwise ltB → (∀ x, x ∈ a ↔ x ∈ b) → a = b := by
  intro a
  induction a with
  | nil =>
    intro b _ _ h
    cases b with
    | nil => rfl
    | cons y b => exact absurd ((h y).2 (List.mem_cons_self)) (by simp)
  | cons x a ih =>
    intro b ha hb h
    cases b with
    | nil => exact absurd ((h x).1 (List.mem_cons_self)) (by simp)
    | cons y b =>
      obtain ⟨ha1, ha2⟩ := List.pairwise_cons.1 ha
      obtain ⟨hb1, hb2⟩ := List.pairwise_cons.1 hb
      have hxy : x = y := by
        rcases List.mem_cons.1 ((h x).1 List.mem_cons_self) with e | e
        · exact e
        · rcases List.mem_cons.1 ((h y).2 List.mem_cons_self) with e' | e'
          · exact e'.symm
          · exact absurd (ha1 y e') (ltB_asymm (hb1 x e))
      subst hxy
      rw [ih ha2 hb2 fun z => ?_]
      have hz := h z
      simp only [List.mem_cons] at hz
      constructor
      · intro h1
        rcases hz.1 (.inr h1) with e | e
        · exact absurd (ha1 z h1) (e ▸ ltB_irrefl _)
        · exact e
      · intro h1
        rcases hz.2 (.inr h1) with e | e
        · exact absurd (hb1 z h1) (e ▸ ltB_irrefl _)
        · exact e
theorem valsOf_eq {l : List En} {m : List ByteArray} (hm : m.Pairwise ltB) (h : ∀ x, x ∈ m ↔ ∃ e ∈ l, e.2.2 = x) : valsOf l = m :=
  pw_unique (valsOf_pw l) hm fun x => mem_valsOf.trans (h x).symm
end Go.Proofs.YtgpdpalhkkjmiaaGreatDoor

/- Sets that a law makes itself: the contracts, told of a list of entries. -/
namespace Go.Proofs.YtgpdpalhkkjmiaaGreatDoor
set_option linter.unusedVariables false
set_option linter.unusedSimpArgs false
open Go.RowKit Go.Lib Go.Tt
/-- A set with these entries and nothing else. -/
def setC (l : List En) : CellV := ⟨2, false, (0, 0), ⟨#[]⟩, (0, 0), l, [], []⟩
theorem setC_b {l : List En} (h : l.length ≤ 1000000) : CellB (setC l) := ⟨by show l.length * 32 ≤ reachBytes; unfold reachBytes; omega, by show 0 * 48 ≤ reachBytes; omega, by show 0 * 8 ≤ reachBytes; omega⟩
theorem setC_nil (w : World) : CellR w (setC []) (.slice none 0 0) (.slice none 0 0) (.slice none 0 0) := ⟨RdS.nil _ _, RdS.nil _ _, RdS.nil _ _⟩
theorem putEn_len (l : List En) (d : Dt) (v : ByteArray) : (putEn l d v).length = l.length + 1 := by
  unfold putEn putAt
  have := List.findIdx_le_length (xs := l) (p := fun e => dotLess d (e.1, e.2.1))
  rw [List.length_append, List.length_cons, List.length_take, List.length_drop]; omega
theorem set_sh {w : World} {F : Nat → Prop} {l : List En} {ve vl vs : Value} {n' : Nat} (h : CellO w F (setC l) ve vl vs) (hn : n' = l.length) : ∃ a' m' b' d' f' g', ve = .slice a' n' m' ∧ vl = .slice b' 0 d' ∧ vs = .slice f' 0 g' := by
  obtain ⟨a, c, rfl⟩ := h.e.sh
  obtain ⟨b, d, rfl⟩ := h.l.sh
  obtain ⟨f, g, rfl⟩ := h.s.sh
  subst hn
  exact ⟨a, c, b, d, f, g, rfl, rfl, rfl⟩
theorem set_put {w : World} {l : List En} {a b f : Option Addr} {n m d g : Nat} (h : CellR w (setC l) (.slice a n m) (.slice b 0 d) (.slice f 0 g)) (hb : l.length ≤ 1000000) (dt : Dt) (hd : dotMay dt = true) (v : ByteArray) (hv : v.size ≤ 256) (hne : ∀ e ∈ l, (e.1, e.2.1) ≠ dt) (n' : Nat) (hn : n' = l.length + 1) :
    Calls Tryz.prog 72 #[.agg #[.int .i64 2, .bool false, .int .i64 0, .int .i64 0, .string ⟨#[]⟩, .int .i64 0, .int .i64 0, .slice a n m, .slice b 0 d, .slice f 0 g], .agg #[.int .i64 dt.1, .int .i64 dt.2], .string v] w fun e w' => ∃ a' m' b' d' f' g', e = .returned (.tuple #[.agg #[.int .i64 2, .bool false, .int .i64 0, .int .i64 0, .string ⟨#[]⟩, .int .i64 0, .int .i64 0, .slice a' n' m', .slice b' 0 d', .slice f' 0 g'], .int .i64 0]) ∧ CellO w' (Nw No w w') (setC (putEn l dt v)) (.slice a' n' m') (.slice b' 0 d') (.slice f' 0 g') ∧ Frm No w w' := by
  refine (put_ok h (setC_b hb) rfl dt hd v hv hne (by show (l.length + 1) * 32 ≤ _; omega)).mono ?_
  rintro e w' ⟨ve, vl, vs, rfl, o, fr⟩
  have o' : CellO w' (Nw No w w') (setC (putEn l dt v)) ve vl vs := o
  obtain ⟨a', m', b', d', f', g', rfl, rfl, rfl⟩ := set_sh (n' := n') o' (by rw [putEn_len]; exact hn)
  exact ⟨a', m', b', d', f', g', rfl, o', fr⟩
theorem set_drop {w : World} {l : List En} {a b f : Option Addr} {n m d g : Nat} (h : CellR w (setC l) (.slice a n m) (.slice b 0 d) (.slice f 0 g)) (hb : l.length ≤ 1000000) {ad : Option Addr} {nd cd : Nat} {ds : List Dt} (hd : RdS w eDt (.slice ad nd cd) ds) (n' : Nat) (hn : n' = (dropped l ds).length) :
    Calls Tryz.prog 71 #[.agg #[.int .i64 2, .bool false, .int .i64 0, .int .i64 0, .string ⟨#[]⟩, .int .i64 0, .int .i64 0, .slice a n m, .slice b 0 d, .slice f 0 g], .slice ad nd cd] w fun e w' => ∃ a' m' b' d' f' g', e = .returned (.tuple #[.agg #[.int .i64 2, .bool false, .int .i64 0, .int .i64 0, .string ⟨#[]⟩, .int .i64 0, .int .i64 0, .slice a' n' m', .slice b' 0 d', .slice f' 0 g'], .int .i64 0]) ∧ CellO w' (Nw No w w') (setC (dropped l ds)) (.slice a' n' m') (.slice b' 0 d') (.slice f' 0 g') ∧ Frm No w w' := by
  refine (drop_ok h (setC_b hb) rfl hd).mono ?_
  rintro e w' ⟨ve, vl, vs, rfl, o, fr⟩
  have o' : CellO w' (Nw No w w') (setC (dropped l ds)) ve vl vs := o
  obtain ⟨a', m', b', d', f', g', rfl, rfl, rfl⟩ := set_sh (n' := n') o' hn
  exact ⟨a', m', b', d', f', g', rfl, o', fr⟩
theorem set_dots {w : World} {l : List En} {a b f : Option Addr} {n m d g : Nat} (h : CellR w (setC l) (.slice a n m) (.slice b 0 d) (.slice f 0 g)) (hb : l.length ≤ 1000000) (v : ByteArray) (n' : Nat) (hn : n' = (dotsOf l v).length) :
    Calls Tryz.prog 70 #[.agg #[.int .i64 2, .bool false, .int .i64 0, .int .i64 0, .string ⟨#[]⟩, .int .i64 0, .int .i64 0, .slice a n m, .slice b 0 d, .slice f 0 g], .string v] w fun e w' => ∃ a' m', e = .returned (.tuple #[.slice a' n' m', .int .i64 0]) ∧ Ow w' (Nw No w w') 83 eDt (.slice a' n' m') (dotsOf l v) ∧ Frm No w w' := by
  refine (dots_ok h (setC_b hb) rfl v).mono ?_
  rintro e w' ⟨a', n2, m', rfl, o, fr⟩
  have o' : Ow w' (Nw No w w') 83 eDt (.slice a' n2 m') (dotsOf l v) := o
  obtain rfl : n2 = n' := o'.cap.1.trans hn.symm
  exact ⟨a', m', rfl, o', fr⟩
theorem set_values {w : World} {l : List En} {a b f : Option Addr} {n m d g : Nat} (h : CellR w (setC l) (.slice a n m) (.slice b 0 d) (.slice f 0 g)) (hb : l.length ≤ 1000000) (n' : Nat) (hn : n' = (valsOf l).length) :
    Calls Tryz.prog 73 #[.agg #[.int .i64 2, .bool false, .int .i64 0, .int .i64 0, .string ⟨#[]⟩, .int .i64 0, .int .i64 0, .slice a n m, .slice b 0 d, .slice f 0 g]] w fun e w' => ∃ a' m', e = .returned (.tuple #[.slice a' n' m', .int .i64 0]) ∧ Ow w' (Nw No w w') 9 eStr (.slice a' n' m') (valsOf l) ∧ Frm No w w' := by
  refine (values_ok h (setC_b hb) rfl).mono ?_
  rintro e w' ⟨a', n2, m', rfl, o, fr⟩
  have o' : Ow w' (Nw No w w') 9 eStr (.slice a' n2 m') (valsOf l) := o
  obtain rfl : n2 = n' := o'.cap.1.trans hn.symm
  exact ⟨a', m', rfl, o', fr⟩
theorem set_put_bad {w : World} {l : List En} {a b f : Option Addr} {n m d g : Nat} (h : CellR w (setC l) (.slice a n m) (.slice b 0 d) (.slice f 0 g)) (dt : Dt) (v : ByteArray) (hvm : v.size ≤ maxLen) (hbad : dotMay dt = false ∨ 256 < v.size ∨ ∃ e ∈ l, (e.1, e.2.1) = dt) :
    Calls Tryz.prog 72 #[.agg #[.int .i64 2, .bool false, .int .i64 0, .int .i64 0, .string ⟨#[]⟩, .int .i64 0, .int .i64 0, .slice a n m, .slice b 0 d, .slice f 0 g], .agg #[.int .i64 dt.1, .int .i64 dt.2], .string v] w fun e w' => e = .returned (.tuple #[.agg #[.int .i64 0, .bool false, .int .i64 0, .int .i64 0, .string ⟨#[]⟩, .int .i64 0, .int .i64 0, .slice none 0 0, .slice none 0 0, .slice none 0 0], .int .i64 900]) ∧ Frm No w w' :=
  put_bad h dt v hvm (.inr hbad)
/-- The empty cell's values. -/
theorem zero_values (w : World) : Calls Tryz.prog 73 #[.agg #[.int .i64 0, .bool false, .int .i64 0, .int .i64 0, .string ⟨#[]⟩, .int .i64 0, .int .i64 0, .slice none 0 0, .slice none 0 0, .slice none 0 0]] w fun e w' => e = .returned (.tuple #[.slice none 0 0, .int .i64 900]) ∧ Frm No w w' :=
  values_bad (c := ⟨0, false, (0, 0), ⟨#[]⟩, (0, 0), [], [], []⟩) ⟨RdS.nil _ _, RdS.nil _ _, RdS.nil _ _⟩ (by show (0 : Int) ≠ 2; omega)
set_option maxRecDepth 100000 in
theorem num_ok (x : Int) (w : World) : Calls Tryz.prog 10 #[.int .i64 x] w fun e w' => e = .returned (.int .i64 x) ∧ w = w' := by
  go_enter Tryz.func10, Tryz.ntmps10
  go_wp2
  go_ret
  exact ⟨rfl, rfl⟩
end Go.Proofs.YtgpdpalhkkjmiaaGreatDoor

/- Lists: slices.IndexFunc at elements (printed by elemgen.py). -/
namespace Go.Proofs.YtgpdpalhkkjmiaaGreatDoor
set_option linter.unusedVariables false
set_option linter.unusedSimpArgs false
open Go.RowKit Go.Lib Go.Tt
/-- A function value that tells p of an entry. -/
def PredOkL (w : World) (g : Nat) (lb : Array Value) (p : El → Bool) : Prop :=
  ∀ (W : World) (x : El), Frm No w W → Calls Tryz.prog g (#[.agg #[.int .i64 x.1, .int .i64 x.2.1, .int .i64 x.2.2.1, .string x.2.2.2.1, .bool x.2.2.2.2]] ++ lb) W fun e w' => e = .returned (.bool (p x)) ∧ Frm No W w'
/-- What IndexFunc tells. -/
def idxFL (l : List El) (p : El → Bool) : Int := if l.findIdx p < l.length then l.findIdx p else -1
set_option maxRecDepth 100000 in
theorem indexFuncL_ok {w : World} {a : Option Addr} {n c : Nat} {l : List El} (h : RdS w eEl (.slice a n c) l) {g : Nat} {lb : Array Value} {p : El → Bool} (hp : PredOkL w g lb p)
    (eg : ∀ args w, (callFunc g args).run Tryz.prog w = .ok (.enter g args) w) :
    Calls Tryz.prog 146 #[.slice a n c, .func (.func g) #[] lb] w fun e w' => e = .returned (.int .i64 (idxFL l p)) ∧ Frm No w w' := by
  obtain ⟨hn, hc1, hc2, -⟩ := h.facts
  unfold maxLen at hc2
  have HN := Lib.hid hn
  have HP := Lib.hid hp
  clear hn hp
  go_enter Tryz.func146, Tryz.ntmps146
  go_wp2
  go_loopg [5, 8] (n + 1) (fun gg _ iv wr => ∃ (i : Nat), iv = .int .i64 i ∧ i ≤ n ∧ gg = n - i + 1 ∧ Frm No w wr ∧ ∀ j (hj : j < l.length), j < i → p l[j] = false)
  case atStart => exact ⟨0, rfl, Nat.zero_le _, by omega, Frm.refl _ _, fun j hj h => by omega⟩
  case round =>
    obtain ⟨i, rfl, hi, hg, f, h1⟩ := hrel
    have hG := Lib.hid hg
    have H1 := Lib.hid h1
    clear hg h1
    by_cases hlt : i < n
    · have l1 : i < l.length := by rw [← HN.out]; exact hlt
      obtain ⟨b, off, rfl, hb, hc⟩ := (h.no f).at l1
      have e0 : wr.cell? ⟨b, off + i * 5, none⟩ = some (.int .i64 l[i].1) := hc 0 _ rfl
      have e1 : wr.cell? ⟨b, off + i * 5 + 1, none⟩ = some (.int .i64 l[i].2.1) := hc 1 _ rfl
      have e2 : wr.cell? ⟨b, off + i * 5 + 2, none⟩ = some (.int .i64 l[i].2.2.1) := hc 2 _ rfl
      have e3 : wr.cell? ⟨b, off + i * 5 + 3, none⟩ = some (.string l[i].2.2.2.1) := hc 3 _ rfl
      have e4 : wr.cell? ⟨b, off + i * 5 + 4, none⟩ = some (.bool l[i].2.2.2.2) := hc 4 _ rfl
      clear hc h
      have hcall := HP.out wr l[i] f
      obtain ⟨x, hx⟩ : ∃ x, Hid (x = l[i]) := ⟨_, Lib.hid rfl⟩
      rw [← hx.out] at e0 e1 e2 e3 e4 hcall
      cases hq : p x with
      | true =>
        rw [hq] at hcall
        have HQ := Lib.hid hq
        clear hq
        go_wp2_with (fail)
        refine hcall.mono ?_
        rintro e w' ⟨rfl, hb'⟩
        go_wp2
        go_ret
        refine ⟨?_, f.trans hb'⟩
        have e : l.findIdx p = i := by
          rw [List.findIdx_eq l1]
          exact ⟨by rw [← hx.out]; exact HQ.out, fun j hj => by simpa using H1.out j (by omega) hj⟩
        unfold idxFL
        rw [e, if_pos l1]; rfl
      | false =>
        rw [hq] at hcall
        have HQ := Lib.hid hq
        clear hq
        go_wp2_with (fail)
        refine hcall.mono ?_
        rintro e w' ⟨rfl, hb'⟩
        go_wp2
        go_roundg (n - (i + 1) + 1)
        case measure => have := hG.out; omega
        case rel =>
          refine ⟨i + 1, by go_num, by omega, rfl, f.trans hb', fun j hj hji => ?_⟩
          rcases Nat.lt_or_ge j i with h3 | h3
          · exact H1.out j hj h3
          · obtain rfl : j = i := by omega
            rw [← hx.out]; exact HQ.out
    · have hii : ¬ ((i : Int) < n) := by omega
      go_wp2
      go_ret
      refine ⟨?_, f⟩
      have e : l.findIdx p = l.length := List.findIdx_eq_length_of_false fun x hx => by
        obtain ⟨j, hj, rfl⟩ := List.getElem_of_mem hx
        simpa using H1.out j hj (by have := HN.out; omega)
      unfold idxFL
      rw [e, if_neg (Nat.lt_irrefl _)]; rfl
theorem idxFL_nonneg (l : List El) (p : El → Bool) : decide (0 ≤ idxFL l p) = l.any p := by
  unfold idxFL
  by_cases h : l.findIdx p < l.length
  · rw [if_pos h, decide_eq_true (by omega)]
    exact (List.any_eq_true.2 (by obtain h' := List.findIdx_lt_length.1 h; exact h')).symm
  · rw [if_neg h]
    have h' : ¬ ∃ x ∈ l, p x = true := fun e => h (List.findIdx_lt_length.2 e)
    have : l.any p = false := by
      rw [Bool.eq_false_iff]
      exact fun e => h' (List.any_eq_true.1 e)
    rw [this]
    rfl
end Go.Proofs.YtgpdpalhkkjmiaaGreatDoor

/- Lists: slices.DeleteFunc at elements (printed by elemgen.py). -/
namespace Go.Proofs.YtgpdpalhkkjmiaaGreatDoor
set_option linter.unusedVariables false
set_option linter.unusedSimpArgs false
open Go.RowKit Go.Lib Go.Tt
/-- A function value that tells p of an entry, whatever the footprint F bears. -/
def PredFL (F : Nat → Prop) (w : World) (g : Nat) (lb : Array Value) (p : El → Bool) : Prop :=
  ∀ (W : World) (x : El), Frm F w W → Calls Tryz.prog g (#[.agg #[.int .i64 x.1, .int .i64 x.2.1, .int .i64 x.2.2.1, .string x.2.2.2.1, .bool x.2.2.2.2]] ++ lb) W fun e w' => e = .returned (.bool (p x)) ∧ Frm No W w'
theorem filterL_step {l : List El} {p : El → Bool} {i : Nat} {x : El} (h : i < l.length) (hx : Hid (x = l[i])) : (l.take (i + 1)).filter p = (l.take i).filter p ++ if p x then [x] else [] := by
  rw [List.take_succ_eq_append_getElem h, ← hx.out, List.filter_append]
  by_cases hv : p x = true <;> simp [hv]
/-- What stays behind the first that goes. -/
theorem filterL_first {l : List El} {p : El → Bool} (h : l.findIdx p < l.length) : (l.take (l.findIdx p + 1)).filter (fun x => !p x) = l.take (l.findIdx p) := by
  have hx : Hid (l[l.findIdx p] = l[l.findIdx p]) := Lib.hid rfl
  rw [filterL_step h hx, List.findIdx_getElem (w := h)]
  simp only [Bool.not_true, Bool.false_eq_true, if_false, List.append_nil]
  rw [List.filter_eq_self]
  intro x hx
  obtain ⟨j, hj, rfl⟩ := List.getElem_of_mem hx
  rw [List.length_take] at hj
  rw [List.getElem_take]
  have := List.not_of_lt_findIdx (p := p) (xs := l) (i := j) (by omega)
  simpa using this
theorem idxFL_none {l : List El} {p : El → Bool} (h : ¬ l.findIdx p < l.length) : l.filter (fun x => !p x) = l := by
  rw [List.filter_eq_self]
  intro x hx
  have h' : ¬ ∃ x ∈ l, p x = true := fun e => h (List.findIdx_lt_length.2 e)
  cases hq : p x with
  | true => exact absurd ⟨x, hx, hq⟩ h'
  | false => rfl
set_option maxHeartbeats 1000000 in
set_option maxRecDepth 100000 in
theorem delFuncL_ok {w : World} {F : Nat → Prop} {a : Option Addr} {n c : Nat} {l : List El} (h : Ow w F 91 eEl (.slice a n c) l) {g : Nat} {lb : Array Value} {p : El → Bool} (hp : PredFL F w g lb p)
    (eg : ∀ args w, (callFunc g args).run Tryz.prog w = .ok (.enter g args) w) :
    Calls Tryz.prog 144 #[.slice a n c, .func (.func g) #[] lb] w fun e w' => ∃ n', e = .returned (.slice a n' c) ∧ Ow w' F 91 eEl (.slice a n' c) (l.filter fun x => !p x) ∧ Frm F w w' := by
  have HI := indexFuncL_ok h.rd (p := p) (g := g) (lb := lb) (fun W x f => hp W x (f.mono fun _ _ h => h.elim)) eg
  obtain ⟨hn, hnc, hcm, -⟩ := h.rd.facts
  unfold maxLen at hcm
  have HP := Lib.hid hp
  clear hp
  by_cases hfi : l.findIdx p < l.length
  · obtain ⟨b, row, rfl, hB, hF, -, -, -, hrs, htk⟩ := h.cases (by omega)
    have hq : idxFL l p = (l.findIdx p : Int) := by unfold idxFL; rw [if_pos hfi]
    have HFF := Lib.hid (filterL_first hfi)
    rw [hq] at HI
    obtain ⟨k, hk⟩ : ∃ k, Hid (k = l.findIdx p) := ⟨_, Lib.hid rfl⟩
    rw [← hk.out] at HI hfi HFF
    have hkn : k < n := by omega
    have HN := Lib.hid hn
    have HT := Lib.hid htk
    have hRow : row.size = c * 5 := hrs
    clear hq htk hrs hn
    go_enter Tryz.func144, Tryz.ntmps144
    go_wp2_with (fail)
    refine HI.mono ?_
    rintro e w1 ⟨rfl, f1⟩
    have B1 := f1.obj hB id
    clear HI
    go_wp2
    go_loopg [5, 6] (n - (k + 1) + 1) (fun gg iv jv wr => ∃ (i j : Nat) (row : Array Value), iv = .int .i64 i ∧ jv = .int .i64 j ∧ i < j ∧ j ≤ n ∧ gg = n - j + 1 ∧ Frm F w wr ∧
      wr.heap[b]? = some (.cells row 91 (0, 0)) ∧ row.size = c * 5 ∧ ((l.take j).filter fun x => !p x).length = i ∧ row.toList.take (i * 5) = eEl.flat ((l.take j).filter fun x => !p x) ∧
      ∀ m, j * 5 ≤ m → m < n * 5 → row.toList[m]? = (eEl.flat l)[m]?)
    case atStart =>
      refine ⟨k, k + 1, row, rfl, by go_num, by omega, by omega, rfl, f1.mono fun _ _ h => h.elim, B1, hRow, ?_, ?_, ?_⟩
      · rw [HFF.out, List.length_take]; omega
      · rw [HFF.out, ← eEl.flat_take, ← HT.out, List.take_take, Nat.min_eq_left (Nat.mul_le_mul_right _ (by omega))]; rfl
      · intro m _ hm
        rw [← HT.out, List.getElem?_take, if_pos (by rw [← HN.out]; exact hm)]
    case round =>
      clear B1 f1
      obtain ⟨i, j, row', rfl, rfl, hij, hjn, hg, f, B, hr', h1, h2, h3⟩ := hrel
      have hG := Lib.hid hg
      have H1 := Lib.hid h1
      have H2 := Lib.hid h2
      have H3 := Lib.hid h3
      have n1 := lt_of_block B
      clear hg h1 h2 h3
      by_cases hlt : j < n
      · have l1 : j < l.length := by rw [← HN.out]; exact hlt
        have hc : ∀ r u, (eEl.f l[j])[r]? = some u → wr.cell? ⟨b, j * 5 + r, none⟩ = some u := by
          intro r u hu
          have hr : r < 5 := by have := (List.getElem?_eq_some_iff.1 hu).1; rwa [eEl.len] at this
          rw [obj_cell B, ← Array.getElem?_toList, H3.out _ (by omega) (by omega)]
          exact (eEl.flat_get l1 hr).trans hu
        have e0 : wr.cell? ⟨b, j * 5, none⟩ = some (.int .i64 l[j].1) := hc 0 _ rfl
        have e1 : wr.cell? ⟨b, j * 5 + 1, none⟩ = some (.int .i64 l[j].2.1) := hc 1 _ rfl
        have e2 : wr.cell? ⟨b, j * 5 + 2, none⟩ = some (.int .i64 l[j].2.2.1) := hc 2 _ rfl
        have e3 : wr.cell? ⟨b, j * 5 + 3, none⟩ = some (.string l[j].2.2.2.1) := hc 3 _ rfl
        have e4 : wr.cell? ⟨b, j * 5 + 4, none⟩ = some (.bool l[j].2.2.2.2) := hc 4 _ rfl
        clear hc
        obtain ⟨x, hx⟩ : ∃ x, Hid (x = l[j]) := ⟨_, Lib.hid rfl⟩
        rw [← hx.out] at e0 e1 e2 e3 e4
        have hst := filterL_step (p := fun x => !p x) l1 hx
        have hcall := fun W (f : Frm F w W) => HP.out W x f
        cases hq : p x with
        | true =>
          simp only [hq] at hcall hst
          have HST := Lib.hid hst
          clear hst hq
          go_wp2_with (fail)
          refine (hcall _ ?_).mono ?_
          · exact f.al _
          rintro e w2 ⟨rfl, f2⟩
          have F2 : Frm F w w2 := (f.al _).then f2 fun _ _ h => h.elim
          have B2 := f2.obj (al_old B) id
          clear hcall e0 e1 e2
          go_wp2
          go_roundg (n - (j + 1) + 1)
          case measure => have := hG.out; omega
          case rel =>
            have hs := HST.out
            simp only [Bool.not_true, Bool.false_eq_true, if_false, List.append_nil] at hs
            exact ⟨i, j + 1, row', rfl, by go_num, by omega, by omega, rfl, F2, B2, hr', by rw [hs]; exact H1.out, by rw [hs]; exact H2.out, fun m h1 h2 => H3.out m (by omega) h2⟩
        | false =>
          simp only [hq] at hcall hst
          have HST := Lib.hid hst
          clear hst hq
          go_wp2_with (fail)
          refine (hcall _ ?_).mono ?_
          · exact f.al _
          rintro e w2 ⟨rfl, f2⟩
          have F2 : Frm F w w2 := (f.al _).then f2 fun _ _ h => h.elim
          have B2 := f2.obj (al_old B) id
          have V2 : w2.heap[wr.heap.size]? = some (.cells #[.int .i64 x.1, .int .i64 x.2.1, .int .i64 x.2.2.1, .string x.2.2.2.1, .bool x.2.2.2.2] 91 (0, 0)) := f2.obj (heap_alloc_new wr _) id
          have v0 : w2.cell? ⟨wr.heap.size, 0, none⟩ = some (.int .i64 x.1) := obj_cell V2 0
          have v1 : w2.cell? ⟨wr.heap.size, 1, none⟩ = some (.int .i64 x.2.1) := obj_cell V2 1
          have v2 : w2.cell? ⟨wr.heap.size, 2, none⟩ = some (.int .i64 x.2.2.1) := obj_cell V2 2
          have v3 : w2.cell? ⟨wr.heap.size, 3, none⟩ = some (.string x.2.2.2.1) := obj_cell V2 3
          have v4 : w2.cell? ⟨wr.heap.size, 4, none⟩ = some (.bool x.2.2.2.2) := obj_cell V2 4
          have hfit : (i + 1) * 5 ≤ row'.toList.length := by rw [show row'.toList.length = row'.size from Array.length_toList]; omega
          have HA := Lib.hid (row_app (E := eEl) (x := x) H1.out H2.out hfit)
          have HI := Lib.hid hfit
          clear hcall e0 e1 e2 hfit
          go_wp2_with (refine wpList_stoAt _ rfl (.tmp 33) (.tmp 32) 91 rfl B2 (vs := [.int .i64 x.1, .int .i64 x.2.1, .int .i64 x.2.2.1, .string x.2.2.2.1, .bool x.2.2.2.2]) (by kernel_rfl) ?d1 (eEl.one x) rfl rfl ?_)
          case d1 => show i * 5 + 5 ≤ row'.size; omega
          intro w3 B3 f3 z3
          have F3 : Frm F w w3 := F2.trans (f3.mono fun k _ e => e ▸ hF)
          clear v0 v1 v2
          go_wp2
          go_roundg (n - (j + 1) + 1)
          case measure => have := hG.out; omega
          case rel =>
            have hs := HST.out
            simp only [Bool.not_false, if_true] at hs
            refine ⟨i + 1, j + 1, _, by go_num, by go_num, by omega, by omega, rfl, F3, B3, ?_, by rw [hs, List.length_append, H1.out]; rfl, by rw [hs]; exact HA.out.1, fun m h1 h2 => ?_⟩
            · rw [List.size_toArray, rowPut_len _ _ _ (by show i * 5 + 5 ≤ _; have := HI.out; omega), show row'.toList.length = row'.size from Array.length_toList]; exact hr'
            · exact (HA.out.2 m (by show (i + 1) * 5 ≤ m; omega)).trans (H3.out m (by omega) h2)
      · have hjj : ¬ ((j : Int) < n) := by omega
        obtain rfl : j = n := by omega
        have hci : ¬ (c = i) := by omega
        have hb3 : (i : Int) ≤ (j : Int) := by omega
        have hzs : (Builtin.zeroCells (Value.agg #[.int .i64 0, .int .i64 0, .int .i64 0, .string ByteArray.empty, .bool false]).cells (j - i)).size = (j - i) * 5 := size_zeroCells _ _
        have hone : ∀ v ∈ (Builtin.zeroCells (Value.agg #[.int .i64 0, .int .i64 0, .int .i64 0, .string ByteArray.empty, .bool false]).cells (j - i)).toList, v.oneCell' = true := by
          intro v hv
          simp only [Builtin.zeroCells, Array.toList_map, List.mem_map] at hv
          obtain ⟨m, -, rfl⟩ := hv
          have h3 : m % (Value.agg #[.int .i64 0, .int .i64 0, .int .i64 0, .string ByteArray.empty, .bool false]).cells.size < 5 := Nat.mod_lt _ (by decide)
          generalize m % (Value.agg #[.int .i64 0, .int .i64 0, .int .i64 0, .string ByteArray.empty, .bool false]).cells.size = q at h3
          match q, h3 with
          | 0, _ => rfl
          | 1, _ => rfl
          | 2, _ => rfl
          | 3, _ => rfl
          | 4, _ => rfl
        have HO := Lib.hid hone
        have HZ := Lib.hid hzs
        clear hzs hone
        go_wp2_with (refine wpList_clr _ rfl (.tmp 38) 73 91 rfl Tryz.underlying73 Tryz.zeroValue91 HO.out (by omega) B ?d1 rfl ?_)
        case d1 =>
          have h := HZ.out
          simp only [Value.cells] at h
          have e : (ByteArray.empty) = { data := #[] } := rfl
          rw [e] at h
          rw [h]; omega
        intro w3 B3 f3 z3
        have F3 : Frm F w w3 := f.trans (f3.mono fun k _ e => e ▸ hF)
        go_wp2
        go_ret
        have hl : l.take j = l := List.take_of_length_le (by have := HN.out; omega)
        have h1 := H1.out
        have h2 := H2.out
        rw [hl] at h1 h2
        have hfit : i * 5 + (Builtin.zeroCells (Value.agg #[.int .i64 0, .int .i64 0, .int .i64 0, .string ByteArray.empty, .bool false]).cells (j - i)).toList.length ≤ row'.toList.length := by
          rw [Array.length_toList, HZ.out, show row'.toList.length = row'.size from Array.length_toList]; omega
        have o3 : Ow w3 F 91 eEl (.slice (some ⟨b, 0, none⟩) (l.filter fun x => !p x).length c) (l.filter fun x => !p x) :=
          Ow.row B3 hF (by omega) (by unfold maxLen; omega) (by
            rw [List.size_toArray]
            exact (rowPut_len _ _ _ hfit).trans ((show row'.toList.length = row'.size from Array.length_toList).trans hr')) (by
            rw [h1, ← h2]
            exact row_keep hfit (Nat.le_refl _))
        rw [h1] at o3
        exact ⟨i, rfl, o3, F3⟩
  · have hq : idxFL l p = -1 := by unfold idxFL; rw [if_neg hfi]
    have HFF := Lib.hid (idxFL_none hfi)
    rw [hq] at HI
    clear hq hfi hn hnc hcm
    go_enter Tryz.func144, Tryz.ntmps144
    go_wp2_with (fail)
    refine HI.mono ?_
    rintro e w1 ⟨rfl, f1⟩
    go_wp2
    go_ret
    rw [HFF.out]
    exact ⟨n, rfl, h.no f1, f1.mono fun _ _ h => h.elim⟩
end Go.Proofs.YtgpdpalhkkjmiaaGreatDoor

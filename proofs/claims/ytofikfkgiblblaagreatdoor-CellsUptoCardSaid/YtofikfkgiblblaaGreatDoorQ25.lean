/- Merged: DelL Rga5. -/
import Derived.Test.YtofikfkgiblblaaGreatDoorQ14
import Derived.Test.YtofikfkgiblblaaGreatDoorQ23
import Derived.Test.YtofikfkgiblblaaGreatDoorQ24
/- Lists: slices.DeleteFunc at elements (printed by elemgen.py). -/
namespace Go.Proofs.YtofikfkgiblblaaGreatDoor
set_option linter.unusedVariables false
set_option linter.unusedSimpArgs false
set_option linter.unusedVariables false
set_option linter.unusedSimpArgs false
open Go.RowKit Go.Lib Go.Tt
/-- A function value that tells p of an entry, whatever the footprint F bears. -/
def PredFL (F : Nat → Prop) (w : World) (g : Nat) (lb : Array Value) (p : El → Bool) : Prop :=
  ∀ (W : World) (x : El), Frm F w W → Calls Tryz.prog g (#[.agg #[.int .i64 x.1, .int .i64 x.2.1, .int .i64 x.2.2.1, .string x.2.2.2.1, .bool x.2.2.2.2]] ++ lb) W fun e w' => e = .returned (.bool (p x)) ∧ Frm No W w'
theorem filterL_step {l : List El} {p : El → Bool} {i : Nat} {x : El} (h : i < l.length) (hx : Hid (x = l[i])) : (l.take (i + 1)).filter p = (l.take i).filter p ++ if p x then [x] else [] := by
  rw [List.take_succ_eq_append_getElem h, ← hx.out, List.filter_append]
  by_cases hv : p x = true <;> simp [hv]
/-- What stays behind the first that goes. -/
theorem filterL_first {l : List El} {p : El → Bool} (h : l.findIdx p < l.length) : (l.take (l.findIdx p + 1)).filter (fun x => !p x) = l.take (l.findIdx p) := by
  have hx : Hid (l[l.findIdx p] = l[l.findIdx p]) := Lib.hid rfl
  rw [filterL_step h hx, List.findIdx_getElem (w := h)]
  simp only [Bool.not_true, Bool.false_eq_true, if_false, List.append_nil]
  rw [List.filter_eq_self]
  intro x hx
  obtain ⟨j, hj, rfl⟩ := List.getElem_of_mem hx
  rw [List.length_take] at hj
  rw [List.getElem_take]
  have := List.not_of_lt_findIdx (p := p) (xs := l) (i := j) (by omega)
  simpa using this
theorem idxFL_none {l : List El} {p : El → Bool} (h : ¬ l.findIdx p < l.length) : l.filter (fun x => !p x) = l := by
  rw [List.filter_eq_self]
  intro x hx
  have h' : ¬ ∃ x ∈ l, p x = true := fun e => h (List.findIdx_lt_length.2 e)
  cases hq : p x with
  | true => exact absurd ⟨x, hx, hq⟩ h'
  | false => rfl
set_option maxHeartbeats 1000000 in
set_option maxRecDepth 100000 in
theorem delFuncL_ok {w : World} {F : Nat → Prop} {a : Option Addr} {n c : Nat} {l : List El} (h : Ow w F 59 eEl (.slice a n c) l) {g : Nat} {lb : Array Value} {p : El → Bool} (hp : PredFL F w g lb p)
    (eg : ∀ args w, (callFunc g args).run Tryz.prog w = .ok (.enter g args) w) :
    Calls Tryz.prog 127 #[.slice a n c, .func (.func g) #[] lb] w fun e w' => ∃ n', e = .returned (.slice a n' c) ∧ Ow w' F 59 eEl (.slice a n' c) (l.filter fun x => !p x) ∧ Frm F w w' := by
  have HI := indexFuncL_ok h.rd (p := p) (g := g) (lb := lb) (fun W x f => hp W x (f.mono fun _ _ h => h.elim)) eg
  obtain ⟨hn, hnc, hcm, -⟩ := h.rd.facts
  unfold maxLen at hcm
  have HP := Lib.hid hp
  clear hp
  by_cases hfi : l.findIdx p < l.length
  · obtain ⟨b, row, rfl, hB, hF, -, -, -, hrs, htk⟩ := h.cases (by omega)
    have hq : idxFL l p = (l.findIdx p : Int) := by unfold idxFL; rw [if_pos hfi]
    have HFF := Lib.hid (filterL_first hfi)
    rw [hq] at HI
    obtain ⟨k, hk⟩ : ∃ k, Hid (k = l.findIdx p) := ⟨_, Lib.hid rfl⟩
    rw [← hk.out] at HI hfi HFF
    have hkn : k < n := by omega
    have HN := Lib.hid hn
    have HT := Lib.hid htk
    have hRow : row.size = c * 5 := hrs
    clear hq htk hrs hn
    go_enter Tryz.func127, Tryz.ntmps127
    go_wp2_with (fail)
    refine HI.mono ?_
    rintro e w1 ⟨rfl, f1⟩
    have B1 := f1.obj hB id
    clear HI
    go_wp2
    go_loopg [5, 6] (n - (k + 1) + 1) (fun gg iv jv wr => ∃ (i j : Nat) (row : Array Value), iv = .int .i64 i ∧ jv = .int .i64 j ∧ i < j ∧ j ≤ n ∧ gg = n - j + 1 ∧ Frm F w wr ∧
      wr.heap[b]? = some (.cells row 59 (0, 0)) ∧ row.size = c * 5 ∧ ((l.take j).filter fun x => !p x).length = i ∧ row.toList.take (i * 5) = eEl.flat ((l.take j).filter fun x => !p x) ∧
      ∀ m, j * 5 ≤ m → m < n * 5 → row.toList[m]? = (eEl.flat l)[m]?)
    case atStart =>
      refine ⟨k, k + 1, row, rfl, by go_num, by omega, by omega, rfl, f1.mono fun _ _ h => h.elim, B1, hRow, ?_, ?_, ?_⟩
      · rw [HFF.out, List.length_take]; omega
      · rw [HFF.out, ← eEl.flat_take, ← HT.out, List.take_take, Nat.min_eq_left (Nat.mul_le_mul_right _ (by omega))]; rfl
      · intro m _ hm
        rw [← HT.out, List.getElem?_take, if_pos (by rw [← HN.out]; exact hm)]
    case round =>
      clear B1 f1
      obtain ⟨i, j, row', rfl, rfl, hij, hjn, hg, f, B, hr', h1, h2, h3⟩ := hrel
      have hG := Lib.hid hg
      have H1 := Lib.hid h1
      have H2 := Lib.hid h2
      have H3 := Lib.hid h3
      have n1 := lt_of_block B
      clear hg h1 h2 h3
      by_cases hlt : j < n
      · have l1 : j < l.length := by rw [← HN.out]; exact hlt
        have hc : ∀ r u, (eEl.f l[j])[r]? = some u → wr.cell? ⟨b, j * 5 + r, none⟩ = some u := by
          intro r u hu
          have hr : r < 5 := by have := (List.getElem?_eq_some_iff.1 hu).1; rwa [eEl.len] at this
          rw [obj_cell B, ← Array.getElem?_toList, H3.out _ (by omega) (by omega)]
          exact (eEl.flat_get l1 hr).trans hu
        have e0 : wr.cell? ⟨b, j * 5, none⟩ = some (.int .i64 l[j].1) := hc 0 _ rfl
        have e1 : wr.cell? ⟨b, j * 5 + 1, none⟩ = some (.int .i64 l[j].2.1) := hc 1 _ rfl
        have e2 : wr.cell? ⟨b, j * 5 + 2, none⟩ = some (.int .i64 l[j].2.2.1) := hc 2 _ rfl
        have e3 : wr.cell? ⟨b, j * 5 + 3, none⟩ = some (.string l[j].2.2.2.1) := hc 3 _ rfl
        have e4 : wr.cell? ⟨b, j * 5 + 4, none⟩ = some (.bool l[j].2.2.2.2) := hc 4 _ rfl
        clear hc
        obtain ⟨x, hx⟩ : ∃ x, Hid (x = l[j]) := ⟨_, Lib.hid rfl⟩
        rw [← hx.out] at e0 e1 e2 e3 e4
        have hst := filterL_step (p := fun x => !p x) l1 hx
        have hcall := fun W (f : Frm F w W) => HP.out W x f
        cases hq : p x with
        | true =>
          simp only [hq] at hcall hst
          have HST := Lib.hid hst
          clear hst hq
          go_wp2_with (fail)
          refine (hcall _ ?_).mono ?_
          · exact f.al _
          rintro e w2 ⟨rfl, f2⟩
          have F2 : Frm F w w2 := (f.al _).then f2 fun _ _ h => h.elim
          have B2 := f2.obj (al_old B) id
          clear hcall e0 e1 e2
          go_wp2
          go_roundg (n - (j + 1) + 1)
          case measure => have := hG.out; omega
          case rel =>
            have hs := HST.out
            simp only [Bool.not_true, Bool.false_eq_true, if_false, List.append_nil] at hs
            exact ⟨i, j + 1, row', rfl, by go_num, by omega, by omega, rfl, F2, B2, hr', by rw [hs]; exact H1.out, by rw [hs]; exact H2.out, fun m h1 h2 => H3.out m (by omega) h2⟩
        | false =>
          simp only [hq] at hcall hst
          have HST := Lib.hid hst
          clear hst hq
          go_wp2_with (fail)
          refine (hcall _ ?_).mono ?_
          · exact f.al _
          rintro e w2 ⟨rfl, f2⟩
          have F2 : Frm F w w2 := (f.al _).then f2 fun _ _ h => h.elim
          have B2 := f2.obj (al_old B) id
          have V2 : w2.heap[wr.heap.size]? = some (.cells #[.int .i64 x.1, .int .i64 x.2.1, .int .i64 x.2.2.1, .string x.2.2.2.1, .bool x.2.2.2.2] 59 (0, 0)) := f2.obj (heap_alloc_new wr _) id
          have v0 : w2.cell? ⟨wr.heap.size, 0, none⟩ = some (.int .i64 x.1) := obj_cell V2 0
          have v1 : w2.cell? ⟨wr.heap.size, 1, none⟩ = some (.int .i64 x.2.1) := obj_cell V2 1
          have v2 : w2.cell? ⟨wr.heap.size, 2, none⟩ = some (.int .i64 x.2.2.1) := obj_cell V2 2
          have v3 : w2.cell? ⟨wr.heap.size, 3, none⟩ = some (.string x.2.2.2.1) := obj_cell V2 3
          have v4 : w2.cell? ⟨wr.heap.size, 4, none⟩ = some (.bool x.2.2.2.2) := obj_cell V2 4
          have hfit : (i + 1) * 5 ≤ row'.toList.length := by rw [show row'.toList.length = row'.size from Array.length_toList]; omega
          have HA := Lib.hid (row_app (E := eEl) (x := x) H1.out H2.out hfit)
          have HI := Lib.hid hfit
          clear hcall e0 e1 e2 hfit
          go_wp2_with (refine wpList_stoAt _ rfl (.tmp 33) (.tmp 32) 59 rfl B2 (vs := [.int .i64 x.1, .int .i64 x.2.1, .int .i64 x.2.2.1, .string x.2.2.2.1, .bool x.2.2.2.2]) (by kernel_rfl) ?d1 (eEl.one x) rfl rfl ?_)
          case d1 => show i * 5 + 5 ≤ row'.size; omega
          intro w3 B3 f3 z3
          have F3 : Frm F w w3 := F2.trans (f3.mono fun k _ e => e ▸ hF)
          clear v0 v1 v2
          go_wp2
          go_roundg (n - (j + 1) + 1)
          case measure => have := hG.out; omega
          case rel =>
            have hs := HST.out
            simp only [Bool.not_false, if_true] at hs
            refine ⟨i + 1, j + 1, _, by go_num, by go_num, by omega, by omega, rfl, F3, B3, ?_, by rw [hs, List.length_append, H1.out]; rfl, by rw [hs]; exact HA.out.1, fun m h1 h2 => ?_⟩
            · rw [List.size_toArray, rowPut_len _ _ _ (by show i * 5 + 5 ≤ _; have := HI.out; omega), show row'.toList.length = row'.size from Array.length_toList]; exact hr'
            · exact (HA.out.2 m (by show (i + 1) * 5 ≤ m; omega)).trans (H3.out m (by omega) h2)
      · have hjj : ¬ ((j : Int) < n) := by omega
        obtain rfl : j = n := by omega
        have hci : ¬ (c = i) := by omega
        have hb3 : (i : Int) ≤ (j : Int) := by omega
        have hzs : (Builtin.zeroCells (Value.agg #[.int .i64 0, .int .i64 0, .int .i64 0, .string ByteArray.empty, .bool false]).cells (j - i)).size = (j - i) * 5 := size_zeroCells _ _
        have hone : ∀ v ∈ (Builtin.zeroCells (Value.agg #[.int .i64 0, .int .i64 0, .int .i64 0, .string ByteArray.empty, .bool false]).cells (j - i)).toList, v.oneCell' = true := by
          intro v hv
          simp only [Builtin.zeroCells, Array.toList_map, List.mem_map] at hv
          obtain ⟨m, -, rfl⟩ := hv
          have h3 : m % (Value.agg #[.int .i64 0, .int .i64 0, .int .i64 0, .string ByteArray.empty, .bool false]).cells.size < 5 := Nat.mod_lt _ (by decide)
          generalize m % (Value.agg #[.int .i64 0, .int .i64 0, .int .i64 0, .string ByteArray.empty, .bool false]).cells.size = q at h3
          match q, h3 with
          | 0, _ => rfl
          | 1, _ => rfl
          | 2, _ => rfl
          | 3, _ => rfl
          | 4, _ => rfl
        have HO := Lib.hid hone
        have HZ := Lib.hid hzs
        clear hzs hone
        go_wp2_with (refine wpList_clr _ rfl (.tmp 38) 27 59 rfl Tryz.underlying27 Tryz.zeroValue59 HO.out (by omega) B ?d1 rfl ?_)
        case d1 =>
          have h := HZ.out
          simp only [Value.cells] at h
          have e : (ByteArray.empty) = { data := #[] } := rfl
          rw [e] at h
          rw [h]; omega
        intro w3 B3 f3 z3
        have F3 : Frm F w w3 := f.trans (f3.mono fun k _ e => e ▸ hF)
        go_wp2
        go_ret
        have hl : l.take j = l := List.take_of_length_le (by have := HN.out; omega)
        have h1 := H1.out
        have h2 := H2.out
        rw [hl] at h1 h2
        have hfit : i * 5 + (Builtin.zeroCells (Value.agg #[.int .i64 0, .int .i64 0, .int .i64 0, .string ByteArray.empty, .bool false]).cells (j - i)).toList.length ≤ row'.toList.length := by
          rw [Array.length_toList, HZ.out, show row'.toList.length = row'.size from Array.length_toList]; omega
        have o3 : Ow w3 F 59 eEl (.slice (some ⟨b, 0, none⟩) (l.filter fun x => !p x).length c) (l.filter fun x => !p x) :=
          Ow.row B3 hF (by omega) (by unfold maxLen; omega) (by
            rw [List.size_toArray]
            exact (rowPut_len _ _ _ hfit).trans ((show row'.toList.length = row'.size from Array.length_toList).trans hr')) (by
            rw [h1, ← h2]
            exact row_keep hfit (Nat.le_refl _))
        rw [h1] at o3
        exact ⟨i, rfl, o3, F3⟩
  · have hq : idxFL l p = -1 := by unfold idxFL; rw [if_neg hfi]
    have HFF := Lib.hid (idxFL_none hfi)
    rw [hq] at HI
    clear hq hfi hn hnc hcm
    go_enter Tryz.func127, Tryz.ntmps127
    go_wp2_with (fail)
    refine HI.mono ?_
    rintro e w1 ⟨rfl, f1⟩
    go_wp2
    go_ret
    rw [HFF.out]
    exact ⟨n, rfl, h.no f1, f1.mono fun _ _ h => h.elim⟩
end Go.Proofs.YtofikfkgiblblaaGreatDoor

/- Layer 10: rga.Values. -/
namespace Go.Proofs.YtofikfkgiblblaaGreatDoor
set_option linter.unusedVariables false
set_option linter.unusedSimpArgs false
open Go.RowKit Go.Lib Go.Tt Go.Shelf
def mapV (l : List El) : List ByteArray := l.map fun x => x.2.2.2.1
/-- A list's values. -/
def valsL (l : List El) : List ByteArray := mapV (l.filter fun x => !x.2.2.2.2)
set_option maxRecDepth 100000 in
theorem kept1_ok (x : El) (w : World) : Calls Tryz.prog 129 #[.agg #[.int .i64 x.1, .int .i64 x.2.1, .int .i64 x.2.2.1, .string x.2.2.2.1, .bool x.2.2.2.2]] w fun e w' => e = .returned (.bool x.2.2.2.2) ∧ Frm No w w' := by
  go_enter Tryz.func129, Tryz.ntmps129
  go_wp2
  go_ret
  exact ⟨rfl, (Frm.refl No w).al _⟩
set_option maxHeartbeats 1000000 in
set_option maxRecDepth 100000 in
theorem kept_ok {w : World} {b : Nat} {l : List El} {cs : Array Value} {vl : Value} (hB : w.heap[b]? = some (.cells cs 30 (0, 0))) (h0 : cs[0]? = some (.int .i64 3)) (h8 : cs[8]? = some vl) (hl : RdS w eEl vl l) (hb : l.length * 48 ≤ reachBytes) :
    Calls Tryz.prog 91 #[.pointer (some ⟨b, 0, none⟩)] w fun e w' => ∃ a n c, e = .returned (.tuple #[.slice a n c, .int .i64 0]) ∧ Ow w' (Nw No w w') 59 eEl (.slice a n c) (l.filter fun x => !x.2.2.2.2) ∧ Frm No w w' := by
  obtain ⟨al, cl, rfl⟩ := hl.sh
  have q0 : w.cell? ⟨b, 0, none⟩ = some (.int .i64 3) := by rw [obj_cell hB, h0]
  have q8 : w.cell? ⟨b, 8, none⟩ = some (.slice al l.length cl) := by rw [obj_cell hB, h8]
  have nb := lt_of_block hB
  have HC := Lib.hid (cloneEl_ok hl hb)
  clear hB h0 h8 hl hb
  go_enter Tryz.func91, Tryz.ntmps91
  go_wp2_with (fail)
  refine HC.out.mono ?_
  rintro e w1 ⟨a1, c1, rfl, o1, f1⟩
  clear HC
  go_wp2_with (fail)
  have p1 : PredFL (Nw No w w1) w1 129 #[] (fun x => x.2.2.2.2) := fun W x f => kept1_ok x W
  refine (delFuncL_ok o1 p1 (enters_of Tryz.func129 (by kernel_rfl) rfl)).mono ?_
  rintro e w2 ⟨n2, rfl, o2, f2⟩
  clear p1
  go_wp2_with (fail)
  go_ret2
  refine ⟨a1, n2, c1, rfl, o2.mono fun k hk h => ?_, f1.then f2 fun k hk h => ?_⟩
  · rcases h with h | h
    · exact h.elim
    · exact .inr ⟨h.1, by have := f2.size; omega⟩
  · rcases h with h | h
    · exact h
    · omega
theorem valsL_step {l : List El} {i : Nat} {x : El} (h : i < l.length) (hx : Hid (x = l[i])) : mapV (l.take (i + 1)) = mapV (l.take i) ++ [x.2.2.2.1] := by
  unfold mapV
  rw [List.take_succ_eq_append_getElem h, ← hx.out, List.map_append]; rfl
set_option maxHeartbeats 1000000 in
set_option maxRecDepth 100000 in
theorem rgaValues_ok {w : World} {c : CellV} {ve vl vs : Value} (h : CellR w c ve vl vs) (hb : CellB c) (hk : c.kind = 3) :
    Calls Tryz.prog 40 #[cval c ve vl vs] w (VP (valsL c.elems) 0 w) := by
  obtain ⟨he, hl, hs⟩ := h
  obtain ⟨ae, ce, rfl⟩ := he.sh
  obtain ⟨al, cl, rfl⟩ := hl.sh
  obtain ⟨at_, cs, rfl⟩ := hs.sh
  have hbl := hb.l
  unfold cval
  rw [hk]
  have B0 := heap_alloc_new w (.cells #[.int .i64 3, .bool c.set, .int .i64 c.st.1, .int .i64 c.st.2, .string c.value, .int .i64 c.num.1, .int .i64 c.num.2, .slice ae c.ents.length ce, .slice al c.elems.length cl, .slice at_ c.seen.length cs] 30 (0, 0))
  have HK := Lib.hid (kept_ok B0 rfl rfl (hl.no ((Frm.refl No w).al _)) hbl)
  have hfl : (c.elems.filter fun x => !x.2.2.2.2).length ≤ c.elems.length := List.length_filter_le _ _
  unfold reachBytes at hbl
  clear he hl hs hb hk B0
  go_enter Tryz.func40, Tryz.ntmps40
  go_wp2_with (fail)
  refine HK.out.mono ?_
  rintro e w1 ⟨a1, n1, c1, rfl, o1, f1⟩
  have F1 : Frm No w w1 := ((Frm.refl No w).al _).trans f1
  clear HK f1
  obtain ⟨L, hL⟩ : ∃ L, Hid (L = c.elems.filter fun x => !x.2.2.2.2) := ⟨_, Lib.hid rfl⟩
  rw [← hL.out] at o1 hfl
  have hn := o1.rd.facts
  have HN := Lib.hid hn.1
  have hnle : n1 ≤ c.elems.length := by omega
  have R1 := Lib.hid o1.rd
  clear o1 hn
  go_wp2_with (fail)
  go_loopg [6, 15] (n1 + 1) (fun g ov iv wr => ∃ (i : Nat) (ao : Option Addr) (co : Nat), iv = .int .i64 i ∧ ov = .slice ao i co ∧ i ≤ n1 ∧ g = n1 - i + 1 ∧ Frm No w1 wr ∧ Ow wr (fun k => w1.heap.size ≤ k) 9 eStr (.slice ao i co) (mapV (L.take i)))
  case atStart => exact ⟨0, none, 0, rfl, rfl, Nat.zero_le _, by omega, Frm.refl _ _, Ow.nil _ _ _ _ _⟩
  case round =>
    obtain ⟨i, ao, co, rfl, rfl, hi, hg, F, O⟩ := hrel
    have hG := Lib.hid hg
    clear hg
    by_cases hlt : i < n1
    · have l1 : i < L.length := by rw [← HN.out]; exact hlt
      obtain ⟨b, off, rfl, hbb, hc⟩ := (R1.out.no F).at l1
      have e0 : wr.cell? ⟨b, off + i * 5, none⟩ = some (.int .i64 L[i].1) := hc 0 _ rfl
      have e1 : wr.cell? ⟨b, off + i * 5 + 1, none⟩ = some (.int .i64 L[i].2.1) := hc 1 _ rfl
      have e2 : wr.cell? ⟨b, off + i * 5 + 2, none⟩ = some (.int .i64 L[i].2.2.1) := hc 2 _ rfl
      have e3 : wr.cell? ⟨b, off + i * 5 + 3, none⟩ = some (.string L[i].2.2.2.1) := hc 3 _ rfl
      have e4 : wr.cell? ⟨b, off + i * 5 + 4, none⟩ = some (.bool L[i].2.2.2.2) := hc 4 _ rfl
      clear hc
      obtain ⟨x, hx⟩ : ∃ x, Hid (x = L[i]) := ⟨_, Lib.hid rfl⟩
      rw [← hx.out] at e0 e1 e2 e3 e4
      have hlen := O.cap.1
      have HLN := Lib.hid hlen
      clear hlen
      go_wp2_with (at_builtin; refine wpList_ap _ rfl (.tmp 19) (.tmp 22) 65 65 rfl 9 _ 16 Tryz.underlying65 i_str rfl ((O.al _).al _) ((RdS.litg _ eStr x.2.2.2.1 _ (g := wr.heap.size + 1) (by simp)).src Tryz.underlying65) rfl rfl rfl ?c1 ?c2 ?_)
      case c1 => rw [← HLN.out]; unfold maxLen; omega
      case c2 => rw [← HLN.out]; omega
      intro a' c' w2 o2 f2
      have F2 : Frm No w1 w2 := ((F.al _).al _).then f2 fun k hk hh => by omega
      rw [← HLN.out] at o2
      go_wp2_with (fail)
      go_roundg (n1 - (i + 1) + 1)
      case measure => have := hG.out; omega
      case rel => exact ⟨i + 1, a', c', by go_num, by rw [← HLN.out], by omega, rfl, F2, by rw [valsL_step l1 hx]; exact o2.mono fun k _ hh => by rcases hh with hh | hh; exact hh; have := hh.1; have := F.size; simp at *; omega⟩
    · have hii : ¬ ((i : Int) < n1) := by omega
      obtain rfl : i = n1 := by omega
      go_wp2_with (fail)
      go_ret2
      have ht : L.take i = L := List.take_of_length_le (by rw [← HN.out]; omega)
      rw [ht] at O
      have hv : valsL c.elems = mapV L := by unfold valsL; rw [← hL.out]
      rw [hv]
      exact ⟨ao, i, co, rfl, O.fin F1.size, F1.trans F⟩
end Go.Proofs.YtofikfkgiblblaaGreatDoor

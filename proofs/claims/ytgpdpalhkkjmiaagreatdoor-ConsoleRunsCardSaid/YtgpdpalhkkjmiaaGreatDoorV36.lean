/- Merged: ConV ConU ConP ConA. -/
import Derived.Test.YtgpdpalhkkjmiaaGreatDoorV04
import Derived.Test.YtgpdpalhkkjmiaaGreatDoorV19
import Derived.Test.YtgpdpalhkkjmiaaGreatDoorV35
/- The console: how long what is told is. -/
namespace Go.Proofs.YtgpdpalhkkjmiaaGreatDoor
set_option linter.unusedVariables false
set_option linter.unusedSimpArgs false
set_option linter.unusedVariables false
set_option linter.unusedSimpArgs false
open Go.RowKit Go.Lib Go.Tt Go.Shelf
def lsum : List (List UInt8) → Nat
  | [] => 0
  | w :: t => w.length + 1 + lsum t
theorem lsum_app : ∀ l m, lsum (l ++ m) = lsum l + lsum m
  | [], m => by simp [lsum]
  | w :: t, m => by
    have := lsum_app t m
    show w.length + 1 + lsum (t ++ m) = w.length + 1 + lsum t + lsum m
    omega
theorem putW_sum (c : List UInt8) : lsum (putW c) ≤ c.length + 1 := by
  cases c with
  | nil => exact Nat.zero_le _
  | cons b t => exact Nat.le_of_eq rfl
theorem putW_sum' (c : List UInt8) (h : c = []) : lsum (putW c) = 0 := by subst h; rfl
theorem wordsG_sum : ∀ (l cur : List UInt8), lsum (wordsG cur l) ≤ cur.length + l.length + 1
  | [], cur => putW_sum cur
  | b :: t, cur => by
    show lsum (if wsB b then putW cur ++ wordsG [] t else wordsG (cur ++ [b]) t) ≤ _
    split
    · have h1 := putW_sum cur
      have h2 := wordsG_sum t []
      rw [lsum_app, List.length_cons]
      rw [List.length_nil] at h2
      omega
    · have h2 := wordsG_sum t (cur ++ [b])
      rw [List.length_append] at h2
      rw [List.length_cons]
      simp at h2
      omega
theorem wsz_lsum : ∀ l : List (List UInt8), wsz (l.map fun w => ⟨w.toArray⟩) = lsum l
  | [] => rfl
  | w :: t => by
    have := wsz_lsum t
    show (⟨w.toArray⟩ : ByteArray).size + 1 + wsz (t.map fun w => ⟨w.toArray⟩) = w.length + 1 + lsum t
    rw [this, size_eq]
theorem words_sz (l : List UInt8) : wsz (wordsB l) ≤ l.length + 1 := by
  unfold wordsB wordsL
  rw [wsz_lsum]
  have := wordsG_sum l []
  simpa using this
theorem wordsG_ne : ∀ (l cur : List UInt8), ∀ w ∈ wordsG cur l, w ≠ []
  | [], cur, w, h => by
    unfold wordsG at h
    cases cur with
    | nil => cases h
    | cons b t => rw [putW, List.mem_singleton] at h; subst h; simp
  | b :: t, cur, w, h => by
    have h' : w ∈ (if wsB b then putW cur ++ wordsG [] t else wordsG (cur ++ [b]) t) := h
    split at h'
    · rw [List.mem_append] at h'
      rcases h' with h' | h'
      · cases cur with
        | nil => cases h'
        | cons c u => rw [putW, List.mem_singleton] at h'; subst h'; simp
      · exact wordsG_ne t [] w h'
    · exact wordsG_ne t _ w h'
theorem words_ne {l : List UInt8} {w : ByteArray} (h : w ∈ wordsB l) : w.data.toList ≠ [] := by
  unfold wordsB wordsL at h
  rw [List.mem_map] at h
  obtain ⟨v, hv, rfl⟩ := h
  exact wordsG_ne l [] v hv
theorem linesG_sum : ∀ (l cur : List UInt8), lsum (linesG cur l) = cur.length + l.length + 1
  | [], cur => rfl
  | b :: t, cur => by
    show lsum (if b.toNat == 10 then cur :: linesG [] t else linesG (cur ++ [b]) t) = _
    split
    · have h2 := linesG_sum t []
      show cur.length + 1 + lsum (linesG [] t) = _
      rw [List.length_cons]
      rw [List.length_nil] at h2
      omega
    · have h2 := linesG_sum t (cur ++ [b])
      rw [List.length_append] at h2
      rw [List.length_cons]
      simp at h2
      omega
theorem lines_sz (l : List UInt8) : wsz (linesB l) = l.length + 1 := by
  unfold linesB linesL
  rw [wsz_lsum, linesG_sum]
  simp
theorem setG_W {ws : List ByteArray} : ∀ (k i : Nat) (l l' : List En), k = ws.length - i → i ≤ ws.length → SetW ws i l → setG i l (ws.drop i) = some l' → SetW ws ws.length l'
  | 0, i, l, l', hk, hi, h, hg => by
    obtain rfl : i = ws.length := by omega
    rw [List.drop_length] at hg
    cases hg
    exact h
  | k + 1, i, l, l', hk, hi, h, hg => by
    have hlt : i < ws.length := by omega
    rw [List.drop_eq_getElem_cons hlt] at hg
    unfold setG at hg
    cases hs : setS i l ws[i] with
    | none => rw [hs] at hg; cases hg
    | some l1 => rw [hs] at hg; exact setG_W k (i + 1) l1 l' (by omega) hlt (h.step hlt hs) hg
theorem listG_W {ws : List ByteArray} : ∀ (k i : Nat) (l l' : List El), k = ws.length - i → i ≤ ws.length → ListW ws i l → listG i l (ws.drop i) = some l' → ListW ws ws.length l'
  | 0, i, l, l', hk, hi, h, hg => by
    obtain rfl : i = ws.length := by omega
    rw [List.drop_length] at hg
    cases hg
    exact h
  | k + 1, i, l, l', hk, hi, h, hg => by
    have hlt : i < ws.length := by omega
    rw [List.drop_eq_getElem_cons hlt] at hg
    unfold listG at hg
    cases hs : listS i l ws[i] with
    | none => rw [hs] at hg; cases hg
    | some l1 => rw [hs] at hg; exact listG_W k (i + 1) l1 l' (by omega) hlt (h.step hlt hs) hg
theorem errT_len (n : Int) (h0 : 0 ≤ n) (h5 : n ≤ 5000) : (errT n).length ≤ 27 := by
  have := itoa_lenN n h0 h5
  unfold errT
  rw [List.length_append]
  simp
  omega
theorem setT_len {ws : List ByteArray} (h : ws.length ≤ 65537) : (setT ws).length ≤ 16900000 := by
  unfold setT
  cases hg : setG 0 [] ws with
  | none => have := errT_len 900 (by decide) (by decide); dsimp only; omega
  | some l =>
    have hw := (setG_W ws.length 0 [] l (by omega) (by omega) (SetW.nil ws) (by rw [List.drop_zero]; exact hg)).sz
    have hj := join_wsz (valsI l) [32] (by decide)
    rw [valsOf_I] at hw
    dsimp only
    omega
theorem listT_len {ws : List ByteArray} (h : ws.length ≤ 65537) : (listT ws).length ≤ 16900000 := by
  unfold listT
  cases hg : listG 0 [] ws with
  | none => have := errT_len 1000 (by decide) (by decide); dsimp only; omega
  | some l =>
    have hw := (listG_W ws.length 0 [] l (by omega) (by omega) (ListW.nil ws) (by rw [List.drop_zero]; exact hg)).sz
    have hj := join_wsz (valsL l) [32] (by decide)
    dsimp only
    omega
theorem nums_W {ws : List ByteArray} : ∀ {ns : List Int}, numsL ws = some ns → ns.length = ws.length ∧ ∀ x ∈ ns, -1000000 < x ∧ x < 1000000 := by
  induction ws with
  | nil => intro ns h; cases h; exact ⟨rfl, by simp⟩
  | cons w ws ih =>
    intro ns h
    rw [numsL_cons] at h
    cases hx : numL w.data.toList with
    | none => rw [hx] at h; cases h
    | some x =>
      cases hs : numsL ws with
      | none => rw [hx, hs] at h; cases h
      | some xs =>
        rw [hx, hs] at h
        cases h
        have := ih hs
        refine ⟨by rw [List.length_cons, List.length_cons, this.1], fun y hy => ?_⟩
        rw [List.mem_cons] at hy
        rcases hy with rfl | hy
        · exact num_bound hx
        · exact this.2 y hy
theorem pairT_len {ws : List ByteArray} (h : ws.length ≤ 65537) : (pairT ws).length ≤ 16900000 := by
  unfold pairT
  have he := errT_len 2500 (by decide) (by decide)
  cases hn : numsL ws with
  | none => dsimp only; omega
  | some ns =>
    have hw := nums_W hn
    by_cases ho : ns.length % 2 = 1
    · simp only [ho, if_true]; omega
    · simp only [ho, if_false]
      have hp := pairsUp_b (by omega : ns.length ≤ 65537) hw.2
      have hb := sumP_bd hp _ (Nat.le_refl _)
      rw [List.take_length] at hb
      have hl := hp.len
      have l1 : (Lib.itoa (sumP (0, 0) (pairsUp ns)).1).length ≤ 21 := Lib.itoa_length_le _ (by omega) (by omega)
      have l2 : (Lib.itoa (sumP (0, 0) (pairsUp ns)).2).length ≤ 21 := Lib.itoa_length_le _ (by omega) (by omega)
      unfold gtext
      split
      · simp; omega
      · split <;> (simp; omega)
theorem sumT_len (ws : List ByteArray) : (sumT ws).length ≤ 16900000 := by
  have hb := adl_bd (joinT ws [])
  have l1 : (Lib.itoa ((adlG 1 0 (joinT ws []) : Nat) : Int)).length ≤ 21 := Lib.itoa_length_le _ (by omega) (by omega)
  unfold sumT
  omega
theorem tell_len (w : List UInt8) {ws : List ByteArray} (h : ws.length ≤ 65537) : (tellL w ws).length ≤ 16900000 := by
  unfold tellL
  have he := errT_len 2500 (by decide) (by decide)
  split
  · exact pairT_len h
  · split
    · exact sumT_len ws
    · split
      · exact setT_len h
      · split
        · exact listT_len h
        · omega
/-- What the first lines tell. -/
def tellF (ls : List ByteArray) : List UInt8 := ls.flatMap fun x => lineT x.data.toList
theorem tellF_lines (s : List UInt8) : tellF (linesB s) = runL s := by
  unfold tellF linesB runL
  rw [List.flatMap_map]
theorem tellF_step {ls : List ByteArray} {i : Nat} (h : i < ls.length) : tellF (ls.take (i + 1)) = tellF (ls.take i) ++ lineT (ls[i]).data.toList := by
  unfold tellF
  rw [List.take_succ_eq_append_getElem h, List.flatMap_append]
  simp
theorem lineT_len {l : List UInt8} (h : l.length ≤ 65536) : (lineT l).length ≤ 16900001 := by
  unfold lineT
  have hw := words_sz l
  cases hl : wordsB l with
  | nil => simp
  | cons w ws =>
    rw [hl] at hw
    have h2 := wsz_len (w :: ws)
    have := tell_len w.data.toList (ws := ws) (by rw [List.length_cons] at h2; omega)
    dsimp only
    split
    · simp
    · rw [List.length_append]; simp; omega
theorem tellF_len {ls : List ByteArray} (h : ∀ x ∈ ls, x.size ≤ 65536) : (tellF ls).length ≤ ls.length * 16900001 := by
  induction ls with
  | nil => simp [tellF]
  | cons x t ih =>
    have h1 := lineT_len (l := x.data.toList) (by rw [← size_eq]; exact h x (List.mem_cons_self ..))
    have h2 := ih fun y hy => h y (List.mem_cons_of_mem _ hy)
    have e : tellF (x :: t) = lineT x.data.toList ++ tellF t := by simp [tellF]
    rw [e, List.length_append, List.length_cons]
    omega
end Go.Proofs.YtgpdpalhkkjmiaaGreatDoor

/- The console: Run. -/
namespace Go.Proofs.YtgpdpalhkkjmiaaGreatDoor
set_option linter.unusedVariables false
set_option linter.unusedSimpArgs false
open Go.RowKit Go.Lib Go.Tt Go.Shelf
set_option maxRecDepth 100000 in
theorem fstring_new {w : World} {b : Nat} (hb : w.heap[b]? = some (.cells #[.pointer none, .slice none 0 0] 41 (0, 0))) :
    Calls Tryz.prog 20 #[.pointer (some ⟨b, 0, none⟩)] w fun e w' => e = .returned (.string ⟨#[]⟩) ∧ Frm No w w' := by
  have c1 : w.cell? ⟨b, 1, none⟩ = some (.slice none 0 0) := obj_cell hb 1
  have nb := lt_of_block hb
  have hSD : ∀ W, (Builtin.unsafeSliceData_ #[27] 60 #[.slice none 0 0]).run Tryz.prog W = .ok (.pointer none) W := fun W => rfl
  have hUS : ∀ W, (Builtin.unsafeString_ #[60, 3] 9 #[.pointer none, .int .i64 0]).run Tryz.prog W = .ok (.string ⟨#[]⟩) W := fun W => Any.unsafeString_none Tryz.lays169 Tryz.Builder_Extra_169 W none
  go_enter Tryz.func20, Tryz.ntmps20
  go_wp2_with (fail)
  refine wp_region_plan [([0, 1, 2, 3, 5, 6, 7, 8, 9, 4], [8]), ([10, 11], [])] 14 (by kernel_rfl) (by kernel_rfl) (by simp) ?_
  intro N hN
  simp only [wpSegs, List.map_cons, List.map_nil, List.getD_cons_zero, List.getD_cons_succ]
  go_wp2_with (fail)
  refine ⟨again_cons (again_of rfl rfl ?_) again_nil, ?_⟩
  · go_simp
  go_wp2_with (fail)
  go_ret
  exact ⟨rfl, Frm.drew No _⟩
/-- A Builder that holds something, or was never written to. -/
def RB (w : World) (F : Nat → Prop) (b : Nat) (l : List UInt8) : Prop := (l = [] ∧ w.heap[b]? = some (.cells #[.pointer none, .slice none 0 0] 41 (0, 0))) ∨ (l ≠ [] ∧ FB w 41 F b l)
theorem RB.fb {w : World} {F : Nat → Prop} {b : Nat} {l : List UInt8} (h : RB w F b l) : FB w 41 F b l := by
  rcases h with ⟨rfl, h⟩ | ⟨_, h⟩
  · exact FB.new F h
  · exact h
theorem RB.no {w w' : World} {F : Nat → Prop} {b : Nat} {l : List UInt8} (h : RB w F b l) (f : Frm No w w') : RB w' F b l := by
  rcases h with ⟨h0, h⟩ | ⟨h0, h⟩
  · exact .inl ⟨h0, f.obj h id⟩
  · exact .inr ⟨h0, h.no f⟩
theorem RB.string {w : World} {F : Nat → Prop} {M b : Nat} {l : List UInt8} (h : RB w F b l) (hb : M ≤ b) (hF : ∀ k, F k → M ≤ k) (hM : M ≤ w.heap.size) :
    Calls Tryz.prog 20 #[.pointer (some ⟨b, 0, none⟩)] w fun e w' => e = .returned (.string ⟨l.toArray⟩) ∧ Frm (fun k => M ≤ k) w w' := by
  rcases h with ⟨rfl, h⟩ | ⟨h0, h⟩
  · exact (fstring_new h).mono fun e w' ⟨he, f⟩ => ⟨he, f.mono fun _ _ h => h.elim⟩
  · exact bldString_ok (h.bld hb hF) h0 hM
/-- A line's words: what is done with them. -/
def lineW : List ByteArray → List UInt8
  | [] => []
  | w :: ws => if w.data.toList.head? == some 35 then [] else tellL w.data.toList ws ++ [10]
theorem lineW_cons (w : ByteArray) (ws : List ByteArray) : lineW (w :: ws) = if w.data.toList.head? == some 35 then [] else tellL w.data.toList ws ++ [10] := rfl
theorem lineT_w (l : List UInt8) : lineT l = lineW (wordsB l) := by
  unfold lineT lineW
  cases wordsB l <;> rfl
theorem head_b {w : ByteArray} (h : w.data.toList ≠ []) : ∃ h0 : 0 < w.size, w.data.toList.head? = some w[0] := by
  have h1 : 0 < w.size := by rw [size_eq]; exact List.length_pos_iff.2 h
  refine ⟨h1, ?_⟩
  have : w.data.toList[0]? = some w[0] := by
    rw [List.getElem?_eq_getElem (by rw [← size_eq]; exact h1)]; rfl
  rw [List.head?_eq_getElem?, this]
set_option maxRecDepth 100000 in
theorem run_long (s : ByteArray) (hs : 65536 < s.size) (w : World) : Calls Tryz.prog 9 #[.string s] w fun e w' => e = .returned (.tuple #[.string ⟨#[]⟩, .int .i64 2501]) ∧ Frm No w w' := by
  go_enter Tryz.func9, Tryz.ntmps9
  go_wp2_with (fail)
  go_ret2
  exact ⟨rfl, Frm.refl _ _⟩
set_option maxHeartbeats 8000000 in
set_option maxRecDepth 100000 in
theorem run_ok {w : World} (ht : Tab w) (s : ByteArray) (hs : s.size ≤ 65536) : Calls Tryz.prog 9 #[.string s] w fun e w' => e = .returned (.tuple #[.string ⟨(runL s.data.toList).toArray⟩, .int .i64 0]) ∧ Frm No w w' := by
  have HT := Lib.hid ht
  have HSP := Lib.hid (fun W => split_ok s (by omega) W)
  obtain ⟨R, hR⟩ : ∃ R, Hid (R = runL s.data.toList) := ⟨_, Lib.hid rfl⟩
  rw [← hR.out]
  obtain ⟨ls, hls⟩ : ∃ ls, Hid (ls = linesB s.data.toList) := ⟨_, Lib.hid rfl⟩
  have HLZ : Hid (wsz ls ≤ 65537) := Lib.hid (by rw [hls.out, lines_sz, ← size_eq]; omega)
  have HRL : Hid (R = tellF ls) := Lib.hid (by rw [hR.out, hls.out, tellF_lines])
  rw [← hls.out] at HSP
  clear ht
  go_enter Tryz.func9, Tryz.ntmps9
  go_wp2_with (fail)
  refine (HSP.out _).mono ?_
  rintro e w1 ⟨n, rfl, hn, hw1⟩
  have HN := Lib.hid hn
  have hle : n ≤ 65537 := by have := wsz_len ls; have := HLZ.out; omega
  have B1 : w1.heap[w.heap.size]? = some (.cells #[.pointer none, .slice none 0 0] 41 (0, 0)) := by rw [hw1]; exact al_old (heap_alloc_new w _)
  have L1 : w1.heap[w.heap.size + 1]? = some (.cells (ls.map Value.string).toArray 9 (0, 0)) := by rw [hw1]; exact al_at (by simp)
  have F1 : Frm No w w1 := by rw [hw1]; exact ((Frm.refl No w).al _).al _
  clear hw1 hn
  rw [show (w.alloc (Obj.cells #[Value.pointer none, Value.slice none 0 0] 41)).heap.size = w.heap.size + 1 by simp]
  go_wp2_with (fail)
  go_loopg [14] (n + 1) (fun gg iv wr => ∃ (i : Nat), iv = .int .i64 i ∧ i ≤ n ∧ gg = n - i + 1 ∧ Frm No w wr ∧ wr.heap[w.heap.size + 1]? = some (.cells (ls.map Value.string).toArray 9 (0, 0)) ∧
    RB wr (fun k => w.heap.size + 2 ≤ k) w.heap.size (tellF (ls.take i)))
  case atStart => exact ⟨0, rfl, Nat.zero_le _, by omega, F1, L1, .inl ⟨rfl, B1⟩⟩
  case round =>
    obtain ⟨i, rfl, hi, hg, F, L, B⟩ := hrel
    have hG := Lib.hid hg
    have nL := lt_of_block L
    clear hg
    by_cases hlt : i < n
    · have l1 : i < ls.length := by rw [← HN.out]; exact hlt
      have e0 : wr.cell? ⟨w.heap.size + 1, i, none⟩ = some (.string ls[i]) := by rw [obj_cell L]; simp [l1]
      have hxw := wsz_at l1
      obtain ⟨x, hx⟩ : ∃ x, Hid (x = ls[i]) := ⟨_, Lib.hid rfl⟩
      rw [← hx.out] at e0 hxw
      have hxm : x.size ≤ 65536 := by have := HLZ.out; omega
      have HF := Lib.hid (fields_ok x (by omega))
      have hwz := words_sz x.data.toList
      rw [← size_eq] at hwz
      have HST : Hid (tellF (ls.take (i + 1)) = tellF (ls.take i) ++ lineW (wordsB x.data.toList)) := Lib.hid (by rw [tellF_step l1, ← hx.out, lineT_w])
      obtain ⟨wl, hwl⟩ : ∃ wl, Hid (wl = wordsB x.data.toList) := ⟨_, Lib.hid rfl⟩
      have hwne : ∀ v ∈ wl, v.data.toList ≠ [] := fun v hv => words_ne (l := x.data.toList) (by rw [← hwl.out]; exact hv)
      have HWNE := Lib.hid hwne
      rw [← hwl.out] at hwz HF HST
      have hwz2 : wsz wl ≤ 65537 := by omega
      have HWZ := Lib.hid hwz2
      clear hxw hwz hwz2 hwne
      have HLEN : Hid ((tellF (ls.take i)).length ≤ 1110000000000) := Lib.hid (by
        have h1 := tellF_len (ls := ls.take i) fun y hy => by
          obtain ⟨j, hj, rfl⟩ := List.getElem_of_mem (List.mem_of_mem_take hy)
          have := wsz_at hj
          have := HLZ.out
          omega
        rw [List.length_take] at h1
        have h2 : min i ls.length * 16900001 ≤ 65537 * 16900001 := Nat.mul_le_mul_right _ (by omega)
        omega)
      go_wp2_with (fail)
      refine (HF.out _).mono ?_
      rintro e w2 ⟨a, n2, c2, rfl, o2, f2⟩
      have L2 := f2.obj L id
      have nL2 := lt_of_block L2
      have B2 := B.no f2
      have F2 := F.trans f2
      have z2 := f2.size
      clear e0 HF
      cases wl with
      | nil =>
        obtain rfl : n2 = 0 := o2.cap.1
        clear o2
        go_wp2_with (fail)
        go_roundg (n - (i + 1) + 1)
        case measure => have := hG.out; omega
        case rel => exact ⟨i + 1, by go_num, by omega, rfl, F2, L2, by rw [HST.out]; unfold lineW; rw [List.append_nil]; exact B2⟩
      | cons wd wt =>
        have R2 := Lib.hid o2.rd
        have hn2 : 0 < n2 := by rw [o2.cap.1, List.length_cons]; omega
        obtain ⟨b, off, rfl, hbb, hc⟩ := o2.rd.at (i := 0) (by simp)
        have e1 : w2.cell? ⟨b, off, none⟩ = some (.string wd) := by have := hc 0 _ rfl; simpa using this
        obtain ⟨hd0, hhd⟩ := head_b (HWNE.out wd (List.mem_cons_self ..))
        clear hc o2
        cases hq : ((wd[0].toNat : Int) != 35) with
        | false =>
          have hz : lineW (wd :: wt) = [] := by
            rw [lineW_cons]
            have h35 : wd[0] = 35 := by
              apply UInt8.toNat.inj
              have : (wd[0].toNat : Int) = 35 := by simpa using hq
              show wd[0].toNat = 35
              omega
            rw [hhd, h35]; rfl
          have HZ := Lib.hid hz
          clear hz hhd
          go_wp2_with (fail)
          go_roundg (n - (i + 1) + 1)
          case measure => have := hG.out; omega
          case rel => exact ⟨i + 1, by go_num, by omega, rfl, F2, L2, by rw [HST.out, HZ.out, List.append_nil]; exact B2⟩
        | true =>
          have hz : lineW (wd :: wt) = tellL wd.data.toList wt ++ [10] := by
            rw [lineW_cons]
            have h35 : ¬ wd[0] = 35 := by
              intro h
              rw [h] at hq
              exact absurd hq (by decide)
            have : (some wd[0] == some 35) = false := by
              rw [beq_eq_false_iff_ne]; intro h; exact h35 (Option.some.inj h)
            rw [hhd, this]; rfl
          have HZ := Lib.hid hz
          clear hz hhd
          obtain ⟨tt, htt⟩ : ∃ tt : ByteArray, Hid (tt = ⟨(tellL wd.data.toList wt).toArray⟩) := ⟨_, Lib.hid rfl⟩
          have HLI := Lib.hid (line_ok (HT.out.frm F2) R2.out HWZ.out)
          rw [← htt.out] at HLI
          have htl : tt.size ≤ 16900000 := by
            rw [htt.out, size_eq]
            show (List.toArray _).toList.length ≤ _
            rw [List.toList_toArray]
            have h1 := wsz_len (wd :: wt)
            rw [List.length_cons] at h1
            have := HWZ.out
            exact tell_len _ (by omega)
          go_wp2_with (fail)
          refine HLI.out.mono ?_
          rintro e w3 ⟨rfl, f3⟩
          have L3 := f3.obj L2 id
          have nL3 := lt_of_block L3
          have B3 := B2.no f3
          have F3 := F2.trans f3
          have z3 := f3.size
          have hsz : (tt ++ (⟨#[10]⟩ : ByteArray)).size = tt.size + 1 := by rw [ByteArray.size_append]; rfl
          have HSZ := Lib.hid hsz
          have HW3 := Lib.hid (fwriteString_ok (t := 41) rfl B3.fb (tt ++ ⟨#[10]⟩) (by rw [HSZ.out]; have := HLEN.out; omega))
          clear e1 hsz
          go_wp2_with (fail)
          refine (HW3.out).mono ?_
          rintro e w4 ⟨rfl, b4, f4⟩
          have L4 := f4.obj L3 (by omega)
          go_wp2_with (fail)
          go_roundg (n - (i + 1) + 1)
          case measure => have := hG.out; omega
          case rel =>
            refine ⟨i + 1, by go_num, by omega, rfl, F3.then f4 fun k hk h => by omega, L4, .inr ⟨?_, ?_⟩⟩
            · rw [HST.out, HZ.out]; simp
            · have e : tellF (ls.take (i + 1)) = tellF (ls.take i) ++ (tt ++ (⟨#[10]⟩ : ByteArray)).data.toList := by
                rw [HST.out, HZ.out, htt.out]
                simp [ByteArray.data_append]
              rw [e]
              exact b4.mono fun k hk h => by rcases h with h | h; exact h; have := h.1; omega
    · have hii : ¬ ((i : Int) < n) := by omega
      rw [List.take_of_length_le (by rw [← HN.out]; omega), ← HRL.out] at B
      have HB := Lib.hid (B.string (M := w.heap.size) (Nat.le_refl _) (fun k h => by omega) (by omega))
      go_wp2_with (fail)
      refine HB.out.mono ?_
      rintro e w2 ⟨rfl, f2⟩
      go_wp2_with (fail)
      go_ret2
      exact ⟨rfl, F.then f2 fun k hk h => by omega⟩
end Go.Proofs.YtgpdpalhkkjmiaaGreatDoor

/- The console's plain laws. -/
namespace Go.Proofs.YtgpdpalhkkjmiaaGreatDoor
set_option linter.unusedVariables false
set_option linter.unusedSimpArgs false
open Go.RowKit Go.Lib Go.Tt
theorem linesG_app : ∀ (x cur y : List UInt8), linesG cur (x ++ 10 :: y) = linesG cur x ++ linesG [] y
  | [], cur, y => rfl
  | b :: x, cur, y => by
    show (if b.toNat == 10 then cur :: linesG [] (x ++ 10 :: y) else linesG (cur ++ [b]) (x ++ 10 :: y)) = (if b.toNat == 10 then cur :: linesG [] x else linesG (cur ++ [b]) x) ++ _
    split
    · rw [linesG_app x]; rfl
    · exact linesG_app x _ y
theorem runL_app (x y : List UInt8) : runL (x ++ 10 :: y) = runL x ++ runL y := by
  unfold runL linesL
  rw [linesG_app, List.flatMap_append]
theorem runL_nil : runL [] = [] := rfl
theorem runL_end (x : List UInt8) : runL (x ++ [10]) = runL x := by rw [runL_app x [], runL_nil, List.append_nil]
/-- Lines one behind the other. -/
def manyL : List (List UInt8) → List UInt8
  | [] => []
  | x :: t => x ++ 10 :: manyL t
theorem runL_many : ∀ xs : List (List UInt8), runL (manyL xs) = xs.flatMap runL
  | [] => rfl
  | x :: t => by
    show runL (x ++ 10 :: manyL t) = _
    rw [runL_app, runL_many t, List.flatMap_cons]
theorem manyL_app : ∀ (xs : List (List UInt8)) (x : List UInt8), manyL (xs ++ [x]) = manyL xs ++ (x ++ [10])
  | [], x => by simp [manyL]
  | y :: t, x => by simp [manyL, manyL_app t x]
theorem wordsG_join : ∀ (ws : List (List UInt8)) (cur : List UInt8), (∀ w ∈ ws, w ≠ [] ∧ ∀ x ∈ w, wsB x = false) → wordsG cur (ws.flatMap fun w => 32 :: w) = putW cur ++ ws
  | [], cur, _ => by simp [wordsG]
  | w :: ws, cur, h => by
    obtain ⟨h1, h2⟩ := h w (List.mem_cons_self ..)
    rw [List.flatMap_cons, List.cons_append]
    show (if wsB 32 then putW cur ++ wordsG [] (w ++ _) else _) = _
    rw [if_pos (by decide), wordsG_app w _ _ h2, List.nil_append, wordsG_join ws w fun v hv => h v (List.mem_cons_of_mem _ hv), putW_ne h1]
    rfl
/-- One line of words. -/
theorem run_line {w : List UInt8} {ws : List (List UInt8)} (hw : w ≠ [] ∧ ∀ x ∈ w, wsB x = false ∧ x ≠ 10) (hws : ∀ v ∈ ws, v ≠ [] ∧ ∀ x ∈ v, wsB x = false ∧ x ≠ 10) (h35 : w.head? ≠ some 35) : runL (w ++ ws.flatMap fun v => 32 :: v) = tellL w (ws.map fun v => ⟨v.toArray⟩) ++ [10] := by
  have hn : (10 : UInt8) ∉ w ++ ws.flatMap fun v => 32 :: v := by
    intro hm
    rw [List.mem_append] at hm
    rcases hm with hm | hm
    · exact (hw.2 10 hm).2 rfl
    · rw [List.mem_flatMap] at hm
      obtain ⟨v, hv, hm⟩ := hm
      rw [List.mem_cons] at hm
      rcases hm with hm | hm
      · exact absurd hm (by decide)
      · exact ((hws v hv).2 10 hm).2 rfl
  unfold runL linesL
  rw [linesG_no _ _ hn, List.nil_append, List.flatMap_cons, List.flatMap_nil, List.append_nil]
  have hwl : wordsL (w ++ ws.flatMap fun v => 32 :: v) = w :: ws := by
    unfold wordsL
    rw [wordsG_app w _ _ fun x hx => (hw.2 x hx).1, List.nil_append, wordsG_join ws w fun v hv => ⟨(hws v hv).1, fun x hx => ((hws v hv).2 x hx).1⟩, putW_ne hw.1]
    rfl
  unfold lineT wordsB
  rw [hwl, List.map_cons]
  have : (w.head? == some 35) = false := by rw [beq_eq_false_iff_ne]; exact h35
  simp only [this, Bool.false_eq_true, if_false]
/-! ## Sets of eight words -/
def w8 (k : Nat) : List UInt8 := 119 :: decDigits k
def w8B (k : Nat) : ByteArray := ⟨(w8 k).toArray⟩
/-- What a pick says: a word, with or without a dash. -/
def pickW (k : Nat) (d : Bool) : List UInt8 := if d then 45 :: w8 k else w8 k
theorem setG_app : ∀ (ws : List ByteArray) (i : Nat) (l : List En) (w : ByteArray), setG i l (ws ++ [w]) = match setG i l ws with
    | none => none
    | some l' => setS (i + ws.length) l' w
  | [], i, l, w => by
    simp only [List.nil_append, setG, List.length_nil, Nat.add_zero]
    cases setS i l w <;> rfl
  | v :: ws, i, l, w => by
    simp only [List.cons_append, setG]
    cases setS i l v with
    | none => rfl
    | some l' =>
      simp only
      rw [setG_app ws (i + 1) l' w, List.length_cons]
      rw [show i + 1 + ws.length = i + (ws.length + 1) from by omega]
theorem listG_app : ∀ (ws : List ByteArray) (i : Nat) (l : List El) (w : ByteArray), listG i l (ws ++ [w]) = match listG i l ws with
    | none => none
    | some l' => listS (i + ws.length) l' w
  | [], i, l, w => by
    simp only [List.nil_append, listG, List.length_nil, Nat.add_zero]
    cases listS i l w <;> rfl
  | v :: ws, i, l, w => by
    simp only [List.cons_append, listG]
    cases listS i l v with
    | none => rfl
    | some l' =>
      simp only
      rw [listG_app ws (i + 1) l' w, List.length_cons]
      rw [show i + 1 + ws.length = i + (ws.length + 1) from by omega]
end Go.Proofs.YtgpdpalhkkjmiaaGreatDoor

/- The console's laws: awake, ConsoleWrong (printed by gen_conawk.py). -/
namespace Go.Proofs.YtgpdpalhkkjmiaaGreatDoor
set_option linter.unusedVariables false
set_option linter.unusedSimpArgs false
open Go.RowKit Go.Lib Go.Tt Go.Shelf
theorem awake_tells : runL [112, 97, 105, 114, 32, 49, 32, 50, 32, 45, 51, 32, 52, 10, 35, 32, 120, 10, 10, 115, 117, 109, 32, 87, 105, 107, 105, 32, 112, 101, 100, 105, 97, 10, 115, 101, 116, 32, 98, 32, 97, 32, 98, 32, 45, 98, 32, 99, 10, 108, 105, 115, 116, 32, 97, 32, 98, 32, 99, 32, 45, 32, 100, 10, 102, 114, 111, 98, 10, 112, 97, 105, 114, 32, 49, 10, 108, 105, 115, 116] = [45, 50, 43, 54, 105, 10, 51, 48, 48, 50, 56, 54, 56, 55, 50, 10, 97, 32, 99, 10, 98, 32, 99, 32, 100, 10, 101, 114, 114, 111, 114, 32, 50, 53, 48, 48, 10, 101, 114, 114, 111, 114, 32, 50, 53, 48, 48, 10, 10] := by kernel_rfl
set_option maxRecDepth 100000 in
theorem conAwake_ok {w : World} (ht : Tab w) : Calls Tryz.prog 11 #[] w fun e w' => e = .returned (.bool true) ∧ Frm No w w' := by
  have h := run_ok ht ⟨#[112, 97, 105, 114, 32, 49, 32, 50, 32, 45, 51, 32, 52, 10, 35, 32, 120, 10, 10, 115, 117, 109, 32, 87, 105, 107, 105, 32, 112, 101, 100, 105, 97, 10, 115, 101, 116, 32, 98, 32, 97, 32, 98, 32, 45, 98, 32, 99, 10, 108, 105, 115, 116, 32, 97, 32, 98, 32, 99, 32, 45, 32, 100, 10, 102, 114, 111, 98, 10, 112, 97, 105, 114, 32, 49, 10, 108, 105, 115, 116]⟩ (by decide)
  rw [show (⟨#[112, 97, 105, 114, 32, 49, 32, 50, 32, 45, 51, 32, 52, 10, 35, 32, 120, 10, 10, 115, 117, 109, 32, 87, 105, 107, 105, 32, 112, 101, 100, 105, 97, 10, 115, 101, 116, 32, 98, 32, 97, 32, 98, 32, 45, 98, 32, 99, 10, 108, 105, 115, 116, 32, 97, 32, 98, 32, 99, 32, 45, 32, 100, 10, 102, 114, 111, 98, 10, 112, 97, 105, 114, 32, 49, 10, 108, 105, 115, 116]⟩ : ByteArray).data.toList = [112, 97, 105, 114, 32, 49, 32, 50, 32, 45, 51, 32, 52, 10, 35, 32, 120, 10, 10, 115, 117, 109, 32, 87, 105, 107, 105, 32, 112, 101, 100, 105, 97, 10, 115, 101, 116, 32, 98, 32, 97, 32, 98, 32, 45, 98, 32, 99, 10, 108, 105, 115, 116, 32, 97, 32, 98, 32, 99, 32, 45, 32, 100, 10, 102, 114, 111, 98, 10, 112, 97, 105, 114, 32, 49, 10, 108, 105, 115, 116] from rfl, awake_tells] at h
  have H := Lib.hid h
  clear h ht
  go_enter Tryz.func11, Tryz.ntmps11
  go_wp2_with (fail)
  refine H.out.mono ?_
  rintro e w1 ⟨rfl, f1⟩
  go_wp2_with (fail)
  refine (num_ok 0 _).mono ?_
  rintro e w2 ⟨rfl, rfl⟩
  go_wp2_with (fail)
  go_ret
  exact ⟨rfl, f1⟩
theorem wrong0_tells : runL [112, 97, 105, 114, 32, 52, 32, 48, 32, 53, 32, 48, 10, 112, 97, 105, 114, 32, 49] = [57, 10, 101, 114, 114, 111, 114, 32, 50, 53, 48, 48, 10] := by kernel_rfl
theorem wrong1_tells : runL [112, 97, 105, 114, 32, 52, 32, 48, 32, 53, 32, 48, 10, 112, 97, 105, 114, 32, 49, 32, 50, 32, 51] = [57, 10, 101, 114, 114, 111, 114, 32, 50, 53, 48, 48, 10] := by kernel_rfl
theorem wrong2_tells : runL [112, 97, 105, 114, 32, 52, 32, 48, 32, 53, 32, 48, 10, 112, 97, 105, 114, 32, 97, 32, 49] = [57, 10, 101, 114, 114, 111, 114, 32, 50, 53, 48, 48, 10] := by kernel_rfl
theorem wrong3_tells : runL [112, 97, 105, 114, 32, 52, 32, 48, 32, 53, 32, 48, 10, 112, 97, 105, 114, 32, 49, 32, 45, 45, 49] = [57, 10, 101, 114, 114, 111, 114, 32, 50, 53, 48, 48, 10] := by kernel_rfl
theorem wrong4_tells : runL [112, 97, 105, 114, 32, 52, 32, 48, 32, 53, 32, 48, 10, 112, 97, 105, 114, 32, 49, 32, 49, 50, 51, 52, 53, 54, 55] = [57, 10, 101, 114, 114, 111, 114, 32, 50, 53, 48, 48, 10] := by kernel_rfl
theorem wrong5_tells : runL [112, 97, 105, 114, 32, 52, 32, 48, 32, 53, 32, 48, 10, 112, 97, 105, 114, 32, 49, 32, 45] = [57, 10, 101, 114, 114, 111, 114, 32, 50, 53, 48, 48, 10] := by kernel_rfl
theorem wrong6_tells : runL [112, 97, 105, 114, 32, 52, 32, 48, 32, 53, 32, 48, 10, 80, 97, 105, 114, 32, 49, 32, 50] = [57, 10, 101, 114, 114, 111, 114, 32, 50, 53, 48, 48, 10] := by kernel_rfl
theorem wrong7_tells : runL [112, 97, 105, 114, 32, 52, 32, 48, 32, 53, 32, 48, 10, 108, 105, 115, 116, 115, 32, 97] = [57, 10, 101, 114, 114, 111, 114, 32, 50, 53, 48, 48, 10] := by kernel_rfl
theorem wrong8_tells : runL [112, 97, 105, 114, 32, 52, 32, 48, 32, 53, 32, 48, 10, 48] = [57, 10, 101, 114, 114, 111, 114, 32, 50, 53, 48, 48, 10] := by kernel_rfl
theorem wrong9_tells : runL [112, 97, 105, 114, 32, 52, 32, 48, 32, 53, 32, 48, 10, 112, 97, 105, 114, 32, 48, 120, 49, 32, 49] = [57, 10, 101, 114, 114, 111, 114, 32, 50, 53, 48, 48, 10] := by kernel_rfl
theorem wrong10_tells : runL [112, 97, 105, 114, 32, 52, 32, 48, 32, 53, 32, 48, 10, 102, 114, 111, 98, 32, 49] = [57, 10, 101, 114, 114, 111, 114, 32, 50, 53, 48, 48, 10] := by kernel_rfl
theorem wrong11_tells : runL [112, 97, 105, 114, 32, 52, 32, 48, 32, 53, 32, 48, 10, 45] = [57, 10, 101, 114, 114, 111, 114, 32, 50, 53, 48, 48, 10] := by kernel_rfl
/-- The lines that are none. -/
def wrongs : List ByteArray := [⟨#[112, 97, 105, 114, 32, 49]⟩, ⟨#[112, 97, 105, 114, 32, 49, 32, 50, 32, 51]⟩, ⟨#[112, 97, 105, 114, 32, 97, 32, 49]⟩, ⟨#[112, 97, 105, 114, 32, 49, 32, 45, 45, 49]⟩, ⟨#[112, 97, 105, 114, 32, 49, 32, 49, 50, 51, 52, 53, 54, 55]⟩, ⟨#[112, 97, 105, 114, 32, 49, 32, 45]⟩, ⟨#[80, 97, 105, 114, 32, 49, 32, 50]⟩, ⟨#[108, 105, 115, 116, 115, 32, 97]⟩, ⟨#[48]⟩, ⟨#[112, 97, 105, 114, 32, 48, 120, 49, 32, 49]⟩, ⟨#[102, 114, 111, 98, 32, 49]⟩, ⟨#[45]⟩]
theorem wrong_tells : ∀ (k : Nat) (h : k < 12), runL ((⟨#[112, 97, 105, 114, 32, 52, 32, 48, 32, 53, 32, 48, 10]⟩ : ByteArray) ++ wrongs[k]).data.toList = [57, 10, 101, 114, 114, 111, 114, 32, 50, 53, 48, 48, 10]
  | 0, _ => wrong0_tells
  | 1, _ => wrong1_tells
  | 2, _ => wrong2_tells
  | 3, _ => wrong3_tells
  | 4, _ => wrong4_tells
  | 5, _ => wrong5_tells
  | 6, _ => wrong6_tells
  | 7, _ => wrong7_tells
  | 8, _ => wrong8_tells
  | 9, _ => wrong9_tells
  | 10, _ => wrong10_tells
  | 11, _ => wrong11_tells
  | k + 12, h => by omega
theorem wrong_sz : ∀ (k : Nat) (h : k < 12), ((⟨#[112, 97, 105, 114, 32, 52, 32, 48, 32, 53, 32, 48, 10]⟩ : ByteArray) ++ wrongs[k]).size ≤ 65536
  | 0, _ => by show ((⟨#[112, 97, 105, 114, 32, 52, 32, 48, 32, 53, 32, 48, 10]⟩ : ByteArray) ++ ⟨#[112, 97, 105, 114, 32, 49]⟩).size ≤ 65536; decide +kernel
  | 1, _ => by show ((⟨#[112, 97, 105, 114, 32, 52, 32, 48, 32, 53, 32, 48, 10]⟩ : ByteArray) ++ ⟨#[112, 97, 105, 114, 32, 49, 32, 50, 32, 51]⟩).size ≤ 65536; decide +kernel
  | 2, _ => by show ((⟨#[112, 97, 105, 114, 32, 52, 32, 48, 32, 53, 32, 48, 10]⟩ : ByteArray) ++ ⟨#[112, 97, 105, 114, 32, 97, 32, 49]⟩).size ≤ 65536; decide +kernel
  | 3, _ => by show ((⟨#[112, 97, 105, 114, 32, 52, 32, 48, 32, 53, 32, 48, 10]⟩ : ByteArray) ++ ⟨#[112, 97, 105, 114, 32, 49, 32, 45, 45, 49]⟩).size ≤ 65536; decide +kernel
  | 4, _ => by show ((⟨#[112, 97, 105, 114, 32, 52, 32, 48, 32, 53, 32, 48, 10]⟩ : ByteArray) ++ ⟨#[112, 97, 105, 114, 32, 49, 32, 49, 50, 51, 52, 53, 54, 55]⟩).size ≤ 65536; decide +kernel
  | 5, _ => by show ((⟨#[112, 97, 105, 114, 32, 52, 32, 48, 32, 53, 32, 48, 10]⟩ : ByteArray) ++ ⟨#[112, 97, 105, 114, 32, 49, 32, 45]⟩).size ≤ 65536; decide +kernel
  | 6, _ => by show ((⟨#[112, 97, 105, 114, 32, 52, 32, 48, 32, 53, 32, 48, 10]⟩ : ByteArray) ++ ⟨#[80, 97, 105, 114, 32, 49, 32, 50]⟩).size ≤ 65536; decide +kernel
  | 7, _ => by show ((⟨#[112, 97, 105, 114, 32, 52, 32, 48, 32, 53, 32, 48, 10]⟩ : ByteArray) ++ ⟨#[108, 105, 115, 116, 115, 32, 97]⟩).size ≤ 65536; decide +kernel
  | 8, _ => by show ((⟨#[112, 97, 105, 114, 32, 52, 32, 48, 32, 53, 32, 48, 10]⟩ : ByteArray) ++ ⟨#[48]⟩).size ≤ 65536; decide +kernel
  | 9, _ => by show ((⟨#[112, 97, 105, 114, 32, 52, 32, 48, 32, 53, 32, 48, 10]⟩ : ByteArray) ++ ⟨#[112, 97, 105, 114, 32, 48, 120, 49, 32, 49]⟩).size ≤ 65536; decide +kernel
  | 10, _ => by show ((⟨#[112, 97, 105, 114, 32, 52, 32, 48, 32, 53, 32, 48, 10]⟩ : ByteArray) ++ ⟨#[102, 114, 111, 98, 32, 49]⟩).size ≤ 65536; decide +kernel
  | 11, _ => by show ((⟨#[112, 97, 105, 114, 32, 52, 32, 48, 32, 53, 32, 48, 10]⟩ : ByteArray) ++ ⟨#[45]⟩).size ≤ 65536; decide +kernel
  | k + 12, h => by omega
theorem wmod (n : Int) (m : Nat) (hm : 0 < m) (hm2 : m ≤ 1000) : ∃ k : Nat, k < m ∧ wrap64 ((IntKind.u64.wrap n).tmod m) = k := by
  have h0 : 0 ≤ IntKind.u64.wrap n := by rw [IntKind.wrap_u64]; omega
  rw [Int.tmod_eq_emod_of_nonneg h0]
  have h1 := Int.emod_nonneg (IntKind.u64.wrap n) (b := (m : Int)) (by omega)
  have h2 := Int.emod_lt_of_pos (IntKind.u64.wrap n) (b := (m : Int)) (by omega)
  refine ⟨((IntKind.u64.wrap n) % (m : Int)).toNat, by omega, ?_⟩
  rw [Int.toNat_of_nonneg h1]
  unfold wrap64
  omega
set_option maxHeartbeats 4000000 in
set_option maxRecDepth 100000 in
theorem consoleWrong_ok {w : World} (ht : Tab w) (n : Int) : Calls Tryz.prog 8 #[.int .i64 n] w fun e w' => e = .returned (.bool true) ∧ Frm No w w' := by
  have H0 := conAwake_ok ht
  obtain ⟨k, hk, hkw⟩ := wmod n 12 (by decide) (by decide)
  obtain ⟨s, hs⟩ : ∃ s, s = wrongs[k]'hk := ⟨_, rfl⟩
  have hpw := wrong_tells k hk
  have hsz := wrong_sz k hk
  rw [← hs] at hpw hsz
  have HP := Lib.hid hpw
  have HZ := Lib.hid hsz
  have hs6 : s.size ≤ 65536 := by rw [ByteArray.size_append] at hsz; omega
  have HW := Lib.hid hkw
  have HS := Lib.hid hs
  have HT := Lib.hid ht
  clear hkw hs hpw hsz ht
  go_enter Tryz.func8, Tryz.ntmps8
  go_wp2_with (fail)
  refine H0.mono ?_
  rintro e w0 ⟨rfl, f0⟩
  clear H0
  go_upto_region 4 with fail
  obtain ⟨W0, hW0⟩ : ∃ W, W = w0.alloc (.cells (wrongs.map Value.string).toArray 9) := ⟨_, rfl⟩
  have F0 : Frm No w W0 := by rw [hW0]; exact f0.al _
  have c0 : W0.cell? ⟨w0.heap.size, k, none⟩ = some (.string s) := by
    rw [hW0, obj_cell (heap_alloc_new w0 _), List.getElem?_toArray, List.getElem?_map, List.getElem?_eq_getElem hk, HS.out]
    rfl
  unfold wrongs at hW0
  simp only [List.map_cons, List.map_nil] at hW0
  rw [← hW0]
  clear hW0
  generalize w0.heap.size = g0 at c0 ⊢
  have HR := Lib.hid (run_ok (HT.out.frm F0) _ HZ.out)
  have hw2 : wrap64 ((IntKind.u64.wrap n).tmod 12) = (k : Int) := HW.out
  go_wp2_with (fail)
  refine HR.out.mono ?_
  rintro e w1 ⟨rfl, f1⟩
  rw [HP.out]
  go_wp2_with (fail)
  refine (num_ok 0 _).mono ?_
  rintro e w2 ⟨rfl, rfl⟩
  go_wp2_with (fail)
  go_ret
  exact ⟨rfl, F0.trans f1⟩
theorem consoleWrong_row (w : World) (ht : Tab w) (n : Int) (_ : (Lit.int .i64 n).wf = true) : Calls Tryz.prog 8 #[.int .i64 n] w fun e w' => e = .returned (.bool true) ∧ Below w.heap.size w w' :=
  (consoleWrong_ok ht n).mono fun e w' ⟨he, f⟩ => ⟨he, f.below (fun _ _ h => h) (Nat.le_refl _)⟩
end Go.Proofs.YtgpdpalhkkjmiaaGreatDoor

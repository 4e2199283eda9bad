/- Merged: Awk15 LBack TopK. -/
import Derived.Test.YthaegncocdddfaaGreatDoorK00
import Derived.Test.YthaegncocdddfaaGreatDoorK20
import Derived.Test.YthaegncocdddfaaGreatDoorK34
import Derived.Test.YthaegncocdddfaaGreatDoorK37
import Derived.Test.YthaegncocdddfaaGreatDoorK38
/- awake. -/
namespace Go.Proofs.YthaegncocdddfaaGreatDoor
set_option linter.unusedVariables false
set_option linter.unusedSimpArgs false
set_option linter.unusedVariables false
set_option linter.unusedSimpArgs false
open Go.RowKit Go.Lib Go.Tt
def docB (v : DocC) : Obj := .cells #[.bool v.m, .slice v.d.p v.d.n v.d.c, .slice v.s.p v.s.n v.s.c, .slice v.f.p v.f.n v.f.c] 26 (0, 0)
def aw1 : ByteArray := ⟨#[113, 117, 101, 114, 121, 32, 113, 40, 36, 118, 58, 84, 101, 120, 116, 41, 123, 120, 58, 84, 40, 105, 100, 58, 36, 118, 41, 64, 115, 107, 105, 112, 40, 105, 102, 58, 102, 97, 108, 115, 101, 41, 123, 46, 46, 46, 70, 125, 125, 32, 102, 114, 97, 103, 109, 101, 110, 116, 32, 70, 32, 111, 110, 32, 84, 123, 105, 100, 125]⟩
def aw2 : ByteArray := ⟨#[123, 97]⟩
def aw3 : ByteArray := ⟨#[123, 97, 125, 123, 98, 125]⟩
def aw4 : ByteArray := ⟨#[123, 97, 123, 98, 123, 99, 123, 100, 123, 101, 125, 125, 125, 125, 125]⟩
def awP : ByteArray := ⟨#[113, 117, 101, 114, 121, 32, 40, 32, 36, 32, 118, 32, 58, 32, 84, 101, 120, 116, 32, 41, 32, 123, 32, 120, 32, 58, 32, 84, 32, 40, 32, 105, 100, 32, 58, 32, 36, 32, 118, 32, 41, 32, 64, 32, 115, 107, 105, 112, 32, 40, 32, 105, 102, 32, 58, 32, 102, 97, 108, 115, 101, 32, 41, 32, 123, 32, 46, 46, 46, 32, 70, 32, 125, 32, 125, 32, 102, 114, 97, 103, 109, 101, 110, 116, 32, 70, 32, 111, 110, 32, 84, 32, 123, 32, 105, 100, 32, 125, 32]⟩
def awD : Dm := ⟨false, [⟨⟨#[118]⟩, 1⟩], [.mk false ⟨#[120]⟩ ⟨#[84]⟩ [⟨⟨#[105, 100]⟩, ⟨3, 0, ⟨#[118]⟩⟩⟩] [⟨true, ⟨2, 0, noTx⟩⟩] [.mk true noTx ⟨#[70]⟩ [] [] []]], [⟨⟨#[70]⟩, ⟨#[84]⟩, [.mk false noTx ⟨#[105, 100]⟩ [] [] []]⟩]⟩
theorem aw1_p : parseL aw1.data.toList = (awD, 0) := by kernel_rfl
theorem aw2_p : (parseL aw2.data.toList).2 = 1500 := by kernel_rfl
theorem aw3_p : (parseL aw3.data.toList).2 = 1500 := by kernel_rfl
theorem aw4_p : (parseL aw4.data.toList).2 = 1501 := by kernel_rfl
theorem awD_l : limD awD = true := by kernel_rfl
theorem awD_p : parseL (prDoc awD) = (awD, 0) := by kernel_rfl
theorem awD_t : (⟨(prDoc awD).toArray⟩ : ByteArray) = awP := by kernel_rfl
theorem awD_is {s : ByteArray} {e : Int} (h : PrintIs awD s e) : s = awP ∧ e = 0 := by
  rcases h with ⟨-, h1, h2⟩ | ⟨h, -, -⟩
  · exact ⟨h1.trans awD_t, h2⟩
  · exact absurd ⟨awD_l, awD_p⟩ h
theorem awD_i : DmI awD := by have := parse_i aw1.data.toList; rw [aw1_p] at this; exact this
theorem awD_len : (prDoc awD).length ≤ 140737488355328 := by have := parse_len aw1.data.toList; rw [aw1_p] at this; exact this awD_l
def allocs : World → List Obj → World
  | w, [] => w
  | w, o :: os => allocs (w.alloc o) os
theorem allocs_old : ∀ (os : List Obj) (w : World) {k : Nat} {o : Obj}, w.heap[k]? = some o → (allocs w os).heap[k]? = some o
  | [], _, _, _, h => h
  | o' :: os, w, _, _, h => allocs_old os (w.alloc o') (al_old h)
theorem allocs_at : ∀ (os : List Obj) (w : World) (i : Nat) {o : Obj}, os[i]? = some o → (allocs w os).heap[w.heap.size + i]? = some o
  | o' :: os, w, 0, o, h => by
    have : o' = o := by simpa using h
    subst this
    exact allocs_old os _ (heap_alloc_new w o')
  | o' :: os, w, i + 1, o, h => by
    have h2 := allocs_at os (w.alloc o') i (o := o) (by simpa using h)
    rw [World.size_alloc] at h2
    rw [show w.heap.size + (i + 1) = w.heap.size + 1 + i from by omega]
    exact h2
theorem allocs_frm : ∀ (os : List Obj) (w : World), Frm No w (allocs w os)
  | [], w => Frm.refl _ _
  | o :: os, w => ((Frm.refl No w).al o).trans (allocs_frm os (w.alloc o))
/-- A row of one. -/
theorem rdB_one {α : Type} {w : World} {b : Nat} {cs : Array Value} {t : TypeId} (E : Enc α) (x : α) (h : w.heap[b]? = some (.cells cs t (0, 0))) (hc : cs.toList = E.f x) : RdB w (fun _ => True) E (.slice (some ⟨b, 0, none⟩) 1 1) [x] := by
  refine ⟨⟨_, _, rfl, Nat.le_refl _, by decide, fun h => (by cases h), fun _ => ⟨_, _, rfl, fun m u hm => ?_⟩⟩, fun _ _ => trivial⟩
  rw [obj_cell h, Nat.zero_add, ← Array.getElem?_toList, hc, ← E.flat_one]
  exact hm
theorem rdB_no {α : Type} (w : World) (E : Enc α) : RdB w (fun _ => True) E (.slice none 0 0) [] := ⟨RdS.nil w E, fun _ _ => trivial⟩
theorem rdAll_no (w : World) : RdAll w (fun _ => True) [] [] := by unfold RdAll; rfl
theorem rdAll_one {w : World} {r : SelC} {s : Sl} (h : RdSel w (fun _ => True) r s) : RdAll w (fun _ => True) [r] [s] := by
  unfold RdAll
  exact ⟨r, [], rfl, h, rdAll_no w⟩
def nsh : Sh := ⟨none, 0, 0⟩
def onesh (b : Nat) : Sh := ⟨some ⟨b, 0, none⟩, 1, 1⟩
def awObjs (h : Nat) : List Obj := [(.cells #[.string ⟨#[118]⟩, .int .i64 1] 62 (0, 0)),
  (.cells #[.string ⟨#[105, 100]⟩, .int .i64 3, .int .i64 0, .string ⟨#[118]⟩] 57 (0, 0)),
  (.cells #[.bool true, .int .i64 2, .int .i64 0, .string ⟨#[]⟩] 60 (0, 0)),
  (.cells #[.bool true, .string ⟨#[]⟩, .string ⟨#[70]⟩, .slice none 0 0, .slice none 0 0, .slice none 0 0] 51 (0, 0)),
  (.cells #[.bool false, .string ⟨#[120]⟩, .string ⟨#[84]⟩, .slice (some ⟨h + 1, 0, none⟩) 1 1, .slice (some ⟨h + 2, 0, none⟩) 1 1, .slice (some ⟨h + 3, 0, none⟩) 1 1] 51 (0, 0)),
  (.cells #[.bool false, .string ⟨#[]⟩, .string ⟨#[105, 100]⟩, .slice none 0 0, .slice none 0 0, .slice none 0 0] 51 (0, 0)),
  (.cells #[.string ⟨#[70]⟩, .string ⟨#[84]⟩, .slice (some ⟨h + 5, 0, none⟩) 1 1] 53 (0, 0)),
  (.cells #[.bool false, .slice (some ⟨h, 0, none⟩) 1 1, .slice (some ⟨h + 4, 0, none⟩) 1 1, .slice (some ⟨h + 6, 0, none⟩) 1 1] 26 (0, 0))]
def awV (h : Nat) : DocC := ⟨false, onesh h, onesh (h + 4), onesh (h + 6)⟩
theorem aw_rd (w : World) : RdDoc (allocs w (awObjs w.heap.size)) (fun _ => True) (awV w.heap.size) awD := by
  have at_ := fun i o h => allocs_at (awObjs w.heap.size) w i (o := o) h
  have b0 := at_ 0 _ rfl
  have b1 := at_ 1 _ rfl
  have b2 := at_ 2 _ rfl
  have b3 := at_ 3 _ rfl
  have b4 := at_ 4 _ rfl
  have b5 := at_ 5 _ rfl
  have b6 := at_ 6 _ rfl
  have s3 : RdSel (allocs w (awObjs w.heap.size)) (fun _ => True) ⟨true, noTx, ⟨#[70]⟩, nsh, nsh, nsh⟩ (.mk true noTx ⟨#[70]⟩ [] [] []) := by
    unfold RdSel
    exact ⟨⟨rfl, rfl, rfl⟩, rdB_no _ _, rdB_no _ _, [], rdB_no _ _, rdAll_no _⟩
  have s5 : RdSel (allocs w (awObjs w.heap.size)) (fun _ => True) ⟨false, noTx, ⟨#[105, 100]⟩, nsh, nsh, nsh⟩ (.mk false noTx ⟨#[105, 100]⟩ [] [] []) := by
    unfold RdSel
    exact ⟨⟨rfl, rfl, rfl⟩, rdB_no _ _, rdB_no _ _, [], rdB_no _ _, rdAll_no _⟩
  have s4 : RdSel (allocs w (awObjs w.heap.size)) (fun _ => True) ⟨false, ⟨#[120]⟩, ⟨#[84]⟩, onesh (w.heap.size + 1), onesh (w.heap.size + 2), onesh (w.heap.size + 3)⟩ (.mk false ⟨#[120]⟩ ⟨#[84]⟩ [⟨⟨#[105, 100]⟩, ⟨3, 0, ⟨#[118]⟩⟩⟩] [⟨true, ⟨2, 0, noTx⟩⟩] [.mk true noTx ⟨#[70]⟩ [] [] []]) := by
    unfold RdSel
    exact ⟨⟨rfl, rfl, rfl⟩, rdB_one eAr _ b1 rfl, rdB_one eFi _ b2 rfl, _, rdB_one eSel _ b3 rfl, rdAll_one s3⟩
  exact ⟨rfl, rdB_one eDc _ b0 rfl, ⟨_, rdB_one eSel _ b4 rfl, rdAll_one s4⟩, [⟨⟨#[70]⟩, ⟨#[84]⟩, onesh (w.heap.size + 5)⟩], rdB_one eFg _ b6 rfl, _, [], rfl, ⟨rfl, rfl⟩, ⟨_, rdB_one eSel _ b5 rfl, rdAll_one s5⟩, rfl⟩
theorem num_ok (n : Int) (w : World) : Calls Tryz.prog 15 #[.int .i64 n] w fun e w' => e = .returned (.int .i64 n) ∧ w' = w := by
  go_enter Tryz.func15, Tryz.ntmps15
  go_wp2
  first
    | (go_ret; exact ⟨rfl, rfl⟩)
    | exact ⟨rfl, rfl⟩

set_option maxHeartbeats 8000000 in
set_option maxRecDepth 100000 in
theorem awake_ok (w : World) (ht : Tab w) : Calls Tryz.prog 17 #[] w fun e w' => e = .returned (.bool true) ∧ Frm No w w' := by
  obtain ⟨R, hR⟩ : ∃ R : Ending → World → Prop, R = fun e w' => e = .returned (.bool true) ∧ Frm No w w' := ⟨_, rfl⟩
  rw [← hR]
  have HQ := Lib.hid hR
  clear hR
  have H1 := parse_c aw1 w (by decide)
  rw [aw1_p] at H1
  go_enter Tryz.func17, Tryz.ntmps17
  go_wp2_with (fail)
  refine H1.mono ?_
  rintro e w1 ⟨v1, rfl, O1, f1⟩
  have D1 := O1.rd
  clear H1 O1
  obtain ⟨W1, hW1⟩ : ∃ W, W = w1.alloc (docB v1) := ⟨_, rfl⟩
  have X1 : W1.heap[w1.heap.size]? = some (docB v1) := by rw [hW1]; exact heap_alloc_new w1 _
  have F1 : Frm No w1 W1 := by rw [hW1]; exact (Frm.refl No w1).al _
  have D2 := D1.frm F1 fun _ _ _ h => h
  have H2 := print_ok D2 (fun k hk => Nat.lt_of_lt_of_le hk.2 F1.size) awD_i (ht.frm (f1.trans F1)) (fun _ => awD_len)
  have HW1 := Lib.hid hW1
  unfold docB at hW1
  clear D1
  unfold dval at H2 ⊢
  go_wp2_with (fail)
  rw [← hW1]
  refine H2.mono ?_
  rintro e w2 ⟨s, er, rfl, hP, f2⟩
  obtain ⟨rfl, rfl⟩ := awD_is hP
  have G2 := (f1.trans F1).trans f2
  have X2 := f2.obj X1 id
  have D3 := D2.frm f2 fun _ _ _ h => h
  have H3 := parse_c aw2 w2 (by decide)
  rw [aw2_p] at H3
  clear H2 hP f1 F1 f2 D2 X1 hW1 HW1
  go_wp2_with (fail)
  refine H3.mono ?_
  rintro e w3 ⟨v3, rfl, -, f3⟩
  have G3 := G2.trans (f3.al (docB v3))
  have X3 : (w3.alloc (docB v3)).heap[w1.heap.size]? = some (docB v1) := (f3.al (docB v3)).obj X2 id
  have D4 : RdDoc (w3.alloc (docB v3)) _ v1 awD := D3.frm (f3.al (docB v3)) fun _ _ _ h => h
  have H4 := parse_c aw3 (w3.alloc (docB v3)) (by decide)
  rw [aw3_p] at H4
  have HX3 := Lib.hid X3
  clear H3 G2 f3 D3 X2 X3
  unfold docB at H4
  unfold dval
  go_wp2_with (fail)
  refine H4.mono ?_
  rintro e w4 ⟨v4, rfl, -, f4⟩
  have G4 := G3.trans (f4.al (docB v4))
  have X4 : (w4.alloc (docB v4)).heap[w1.heap.size]? = some (docB v1) := (f4.al (docB v4)).obj HX3.out id
  have D5 : RdDoc (w4.alloc (docB v4)) _ v1 awD := D4.frm (f4.al (docB v4)) fun _ _ _ h => h
  have H5 := parse_c aw4 (w4.alloc (docB v4)) (by decide)
  rw [aw4_p] at H5
  have HX4 := Lib.hid X4
  clear H4 G3 f4 D4 HX3 X4
  unfold docB at H5
  unfold dval
  go_wp2_with (fail)
  refine H5.mono ?_
  rintro e w5 ⟨v5, rfl, -, f5⟩
  have G5 := G4.trans (f5.al (docB v5))
  have X5 : (w5.alloc (docB v5)).heap[w1.heap.size]? = some (docB v1) := (f5.al (docB v5)).obj HX4.out id
  have D6 : RdDoc (w5.alloc (docB v5)) _ v1 awD := D5.frm (f5.al (docB v5)) fun _ _ _ h => h
  obtain ⟨W5, hW5⟩ : ∃ W, W = w5.alloc (docB v5) := ⟨_, rfl⟩
  rw [← hW5] at G5 X5 D6
  have HX5 := Lib.hid X5
  unfold docB at hW5
  clear H5 G4 f5 D5 HX4
  unfold dval
  go_upto_region 6 with fail
  rw [← hW5]
  clear hW5
  go_upto_region 7 with fail
  have X6 := (allocs_frm (awObjs W5.heap.size) W5).obj HX5.out id
  have X7 := allocs_at (awObjs W5.heap.size) W5 7 rfl
  have D7 := D6.frm (allocs_frm (awObjs W5.heap.size) W5) fun _ _ _ h => h
  have D8 := aw_rd W5
  have HSM := sameDoc_ok D7 D8
  have G6 := G5.trans (allocs_frm (awObjs W5.heap.size) W5)
  change Code.wp _ _ _ _ (allocs W5 (awObjs W5.heap.size))
  generalize allocs W5 (awObjs W5.heap.size) = W6 at X6 X7 HSM G6 ⊢
  have p0 := obj_cell X6 0
  have p1 := obj_cell X6 1
  have p2 := obj_cell X6 2
  have p3 := obj_cell X6 3
  have q0 : W6.cell? ⟨W5.heap.size + 1 + 1 + 1 + 1 + 1 + 1 + 1, 0, none⟩ = _ := obj_cell X7 0
  have q1 : W6.cell? ⟨W5.heap.size + 1 + 1 + 1 + 1 + 1 + 1 + 1, 1, none⟩ = _ := obj_cell X7 1
  have q2 : W6.cell? ⟨W5.heap.size + 1 + 1 + 1 + 1 + 1 + 1 + 1, 2, none⟩ = _ := obj_cell X7 2
  have q3 : W6.cell? ⟨W5.heap.size + 1 + 1 + 1 + 1 + 1 + 1 + 1, 3, none⟩ = _ := obj_cell X7 3
  simp only [List.getElem?_toArray, List.getElem?_cons_succ, List.getElem?_cons_zero] at p0 p1 p2 p3 q0 q1 q2 q3
  have l6 := lt_of_block X6
  have l7 : W5.heap.size + 1 + 1 + 1 + 1 + 1 + 1 + 1 < W6.heap.size := lt_of_block X7
  unfold dval awV onesh at HSM
  clear X6 X7 D7 D8 D6 HX5 G5
  go_wp2_with (fail)
  refine HSM.mono ?_
  rintro e w7 ⟨rfl, f7⟩
  have G7 := G6.trans f7
  clear HSM f7 G6 p0 p1 p2 p3 q0 q1 q2 q3 l6 l7
  have hstr : (awP.toList == awP.toList) = true := beq_self_eq_true _
  unfold awP at hstr
  unfold awP
  go_wp2_with (go_at_call 15; refine (num_ok _ _).mono ?_; rintro e w' ⟨rfl, rfl⟩)
  rw [HQ.out]
  exact ⟨rfl, G7⟩
end Go.Proofs.YthaegncocdddfaaGreatDoor

/- The law DocBack, walked. -/
namespace Go.Proofs.YthaegncocdddfaaGreatDoor
set_option linter.unusedVariables false
set_option linter.unusedSimpArgs false
open Go.RowKit Go.Lib Go.Tt
theorem parse_bad (s : List UInt8) (h : (parseL s).2 ≠ 0) : (parseL s).1 = emDm := by
  unfold parseL at h ⊢
  split
  · rfl
  · next ts hts =>
    rw [hts] at h
    simp only at h ⊢
    split
    · rfl
    · next h1 =>
      rw [if_neg h1] at h
      split
      · rfl
      · next h2 =>
        rw [if_neg h2] at h
        split
        · rfl
        · next h3 =>
          rw [if_neg h3] at h
          exact absurd rfl h
theorem rd_em (w : World) : RdDoc w (fun _ => True) ⟨false, nsh, nsh, nsh⟩ emDm := ⟨rfl, rdB_no _ _, ⟨[], rdB_no _ _, rdAll_no _⟩, [], rdB_no _ _, rfl⟩
set_option maxHeartbeats 8000000 in
set_option maxRecDepth 100000 in
theorem back_ok (s : ByteArray) (w : World) (hs : s.size ≤ 9223372036854775807) (ht : Tab w) : Calls Tryz.prog 4 #[.string s] w fun e w' => e = .returned (.bool true) ∧ Frm No w w' := by
  obtain ⟨R, hR⟩ : ∃ R : Ending → World → Prop, R = fun e w' => e = .returned (.bool true) ∧ Frm No w w' := ⟨_, rfl⟩
  rw [← hR]
  have HQ := Lib.hid hR
  have hnot : ∀ (x : Bool) (w : World), (Op.unary .not (.bool x)).run Tryz.prog w = .ok (.bool (!x)) w := fun _ _ => rfl
  clear hR
  have H0 := awake_ok w ht
  go_enter Tryz.func4, Tryz.ntmps4
  go_wp2_with (fail)
  refine H0.mono ?_
  rintro e w0 ⟨rfl, f0⟩
  have H1 := parse_c s w0 hs
  clear H0
  go_wp2_with (fail)
  refine H1.mono ?_
  rintro e w1 ⟨v1, rfl, O1, f1⟩
  have D1 := O1.rd
  clear H1 O1
  have hbad := parse_bad s.data.toList
  have hpi : DmI (parseL s.data.toList).1 := parse_i s.data.toList
  have hpl := parse_len s.data.toList
  obtain ⟨Z, hZ⟩ : ∃ Z, Z = parseL s.data.toList := ⟨_, rfl⟩
  rw [← hZ] at D1 hbad hpi hpl ⊢
  clear hZ
  obtain ⟨d, er⟩ := Z
  simp only at D1 hbad hpi hpl ⊢
  obtain ⟨W1, hW1⟩ : ∃ W, W = w1.alloc (docB v1) := ⟨_, rfl⟩
  have X1 : W1.heap[w1.heap.size]? = some (docB v1) := by rw [hW1]; exact heap_alloc_new w1 _
  have F1 : Frm No w1 W1 := by rw [hW1]; exact (Frm.refl No w1).al _
  have D2 := D1.frm F1 fun _ _ _ h => h
  have G1 := (f0.trans f1).trans F1
  have hsz1 := F1.size
  have HX1 := Lib.hid X1
  have p0 := obj_cell X1 0
  have p1 := obj_cell X1 1
  have p2 := obj_cell X1 2
  have p3 := obj_cell X1 3
  simp only [List.getElem?_toArray, List.getElem?_cons_succ, List.getElem?_cons_zero] at p0 p1 p2 p3
  have l1 := lt_of_block X1
  unfold docB at hW1
  unfold dval
  clear X1 D1 f0 f1 F1
  go_upto_region 4 with fail
  rw [← hW1]
  clear hW1
  by_cases he : er = 0
  · have heb : (er != 0) = false := by simpa using he
    have HE := Lib.hid he
    clear he hbad
    have H2 := print_ok D2 (fun k hk => Nat.lt_of_lt_of_le hk.2 hsz1) hpi (ht.frm G1) hpl
    unfold dval at H2
    go_wp2_with (go_at_call 15; refine (num_ok _ _).mono ?_; rintro e w' ⟨rfl, rfl⟩)
    refine H2.mono ?_
    rintro e w2 ⟨t, e2, rfl, hP, f2⟩
    have X2 := f2.obj HX1.out id
    have G2 := G1.trans f2
    have D3 := D2.frm f2 fun _ _ _ h => h
    have HP := Lib.hid hP
    clear H2 HX1 p0 p1 p2 p3 l1 f2 D2 G1 hsz1
    rcases hP with ⟨⟨hl, hp⟩, ht2, he2⟩ | ⟨-, ht2, he2⟩
    · have HL := Lib.hid hl
      have HPP := Lib.hid hp
      have HT2 := Lib.hid ht2
      subst he2
      have htl : t.data.toList = prDoc d := by rw [ht2]
      have hts : t.size ≤ 9223372036854775807 := by
        have := hpl hl
        rw [ht2]
        show (prDoc d).toArray.size ≤ _
        rw [List.size_toArray]
        omega
      have H3 := parse_c t w2 hts
      rw [htl, hp] at H3
      clear hl hp ht2 htl hts
      have HX2 := Lib.hid X2
      clear X2
      go_wp2_with (go_at_call 15; refine (num_ok _ _).mono ?_; rintro e w' ⟨rfl, rfl⟩)
      refine H3.mono ?_
      rintro e w3 ⟨v3, rfl, O3, f3⟩
      have E3 := O3.rd
      obtain ⟨W3, hW3⟩ : ∃ W, W = w3.alloc (docB v3) := ⟨_, rfl⟩
      have X3 : W3.heap[w3.heap.size]? = some (docB v3) := by rw [hW3]; exact heap_alloc_new w3 _
      have F3 : Frm No w3 W3 := by rw [hW3]; exact (Frm.refl No w3).al _
      have Y3 := (f3.trans F3).obj HX2.out id
      have E4 := E3.frm F3 fun _ _ _ h => h
      have D4 := D3.frm (f3.trans F3) fun _ _ _ h => h
      have G3 := (G2.trans f3).trans F3
      have hsz3 := F3.size
      have H4 := print_ok E4 (fun k hk => Nat.lt_of_lt_of_le hk.2 hsz3) hpi (ht.frm G3) hpl
      have HX3 := Lib.hid X3
      have HY3 := Lib.hid Y3
      unfold docB at hW3
      unfold dval at H4 ⊢
      clear H3 O3 E3 F3 f3 D3 G2 HX2 X3 Y3
      go_upto_region 10 with fail
      rw [← hW3]
      clear hW3
      have p0 := obj_cell HX3.out 0
      have p1 := obj_cell HX3.out 1
      have p2 := obj_cell HX3.out 2
      have p3 := obj_cell HX3.out 3
      have l1 := lt_of_block HX3.out
      simp only [List.getElem?_toArray, List.getElem?_cons_succ, List.getElem?_cons_zero] at p0 p1 p2 p3
      go_wp2_with (fail)
      refine H4.mono ?_
      rintro e w4 ⟨u, e4, rfl, hP4, f4⟩
      have hu : u = t ∧ e4 = 0 := by
        rcases hP4 with ⟨-, a, b⟩ | ⟨h, -, -⟩
        · exact ⟨a.trans HT2.out.symm, b⟩
        · exact absurd ⟨HL.out, HPP.out⟩ h
      obtain ⟨rfl, rfl⟩ := hu
      have X4 := f4.obj HX3.out id
      have Y4 := f4.obj HY3.out id
      have E5 := E4.frm f4 fun _ _ _ h => h
      have D5 := D4.frm f4 fun _ _ _ h => h
      have HSM := sameDoc_ok E5 D5
      have G4 := G3.trans f4
      have q0 := obj_cell X4 0
      have q1 := obj_cell X4 1
      have q2 := obj_cell X4 2
      have q3 := obj_cell X4 3
      have r0 := obj_cell Y4 0
      have r1 := obj_cell Y4 1
      have r2 := obj_cell Y4 2
      have r3 := obj_cell Y4 3
      have l3 := lt_of_block X4
      have l4 := lt_of_block Y4
      simp only [List.getElem?_toArray, List.getElem?_cons_succ, List.getElem?_cons_zero] at q0 q1 q2 q3 r0 r1 r2 r3
      unfold dval at HSM
      clear H4 p0 p1 p2 p3 l1 f4 HX3 HY3 X4 Y4 E4 D4 E5 D5 hP4 G3 hsz3
      go_wp2_with (go_at_call 15; refine (num_ok _ _).mono ?_; rintro e w' ⟨rfl, rfl⟩)
      refine HSM.mono ?_
      rintro e w5 ⟨rfl, f5⟩
      have G5 := G4.trans f5
      clear HSM f5 q0 q1 q2 q3 r0 r1 r2 r3 l3 l4
      go_wp2_with (go_at_call 15; refine (num_ok _ _).mono ?_; rintro e w' ⟨rfl, rfl⟩)
      rw [HQ.out]
      exact ⟨rfl, G5⟩
    · subst he2 ht2
      have hno : noTx.toList = [] := by rw [ByteArray.toList_eq]; rfl
      go_wp2_with (go_at_call 15; refine (num_ok _ _).mono ?_; rintro e w' ⟨rfl, rfl⟩)
      rw [HQ.out]
      exact ⟨rfl, G2⟩
  · have heb : (er != 0) = true := by simpa using he
    have hd := hbad he
    subst hd
    have HSM := sameDoc_ok D2 (rd_em W1)
    unfold dval nsh at HSM
    clear hbad he
    go_wp2_with (go_at_call 15; refine (num_ok _ _).mono ?_; rintro e w' ⟨rfl, rfl⟩)
    refine HSM.mono ?_
    rintro e w2 ⟨rfl, f2⟩
    go_wp2_with (fail)
    rw [HQ.out]
    exact ⟨rfl, G1.trans f2⟩
end Go.Proofs.YthaegncocdddfaaGreatDoor

/- What the rows of tattlelaw15 lean on. -/
namespace Go.Proofs.YthaegncocdddfaaGreatDoor
set_option linter.unusedVariables false
set_option linter.unusedSimpArgs false
end Go.Proofs.YthaegncocdddfaaGreatDoor

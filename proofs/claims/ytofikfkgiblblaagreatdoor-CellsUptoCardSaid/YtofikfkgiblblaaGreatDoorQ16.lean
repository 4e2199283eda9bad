/- Merged: Spoil2 SameCell. -/
import Derived.Test.YtofikfkgiblblaaGreatDoorQ15
/- A cell of one's own, written over: nothing else turns. -/
namespace Go.Proofs.YtofikfkgiblblaaGreatDoor
set_option linter.unusedVariables false
set_option linter.unusedSimpArgs false
set_option linter.unusedVariables false
set_option linter.unusedSimpArgs false
open Go.RowKit Go.Lib Go.Tt
set_option maxHeartbeats 1000000 in
set_option maxRecDepth 100000 in
theorem spoilCell_ok {w : World} {F : Nat → Prop} {c : CellV} {ve vl vs : Value} (h : CellO w F c ve vl vs) :
    Calls Tryz.prog 19 #[cval c ve vl vs] w fun e w' => e = .returned (.tuple #[]) ∧ Frm F w w' := by
  have h' := h.mono (G := fun k => F k ∧ k < w.heap.size) fun k hk hf => ⟨hf, hk⟩
  obtain ⟨he, hl, hs⟩ := h'
  obtain ⟨ae, ce, rfl⟩ := he.sh
  obtain ⟨al, cl, rfl⟩ := hl.sh
  obtain ⟨at_, cs, rfl⟩ := hs.sh
  clear h
  unfold cval
  go_enter Tryz.func19, Tryz.ntmps19
  go_wp2
  obtain ⟨ne, hne⟩ : ∃ n, Hid (n = c.ents.length) := ⟨_, Lib.hid rfl⟩
  have hm1 : c.ents.length ≤ 2 ^ 63 - 1 := by obtain ⟨-, h1, h2, -⟩ := he.rd.facts; unfold maxLen at h2; omega
  have hm2 : c.elems.length ≤ 2 ^ 63 - 1 := by obtain ⟨-, h1, h2, -⟩ := hl.rd.facts; unfold maxLen at h2; omega
  have hm3 : c.seen.length ≤ maxLen := by obtain ⟨-, h1, h2, -⟩ := hs.rd.facts; omega
  go_loopg [2] (c.ents.length + 1) (fun g iv wr => ∃ (i : Nat) (l' : List En), iv = .int .i64 i ∧ i ≤ c.ents.length ∧ g = c.ents.length - i + 1 ∧ l'.length = c.ents.length ∧ Frm F w wr ∧ wr.heap[w.heap.size]? = some (.cells #[.int .i64 c.kind, .bool c.set, .int .i64 c.st.1, .int .i64 c.st.2, .string c.value, .int .i64 c.num.1, .int .i64 c.num.2, .slice ae c.ents.length ce, .slice al c.elems.length cl, .slice at_ c.seen.length cs] 30 (0, 0)) ∧
    Ow wr (fun k => F k ∧ k < w.heap.size) 62 eEn (.slice ae c.ents.length ce) l' ∧ Ow wr (fun k => F k ∧ k < w.heap.size) 59 eEl (.slice al c.elems.length cl) c.elems ∧ Ow wr (fun k => F k ∧ k < w.heap.size) 3 eInt (.slice at_ c.seen.length cs) c.seen)
  case atStart => exact ⟨0, c.ents, rfl, Nat.zero_le _, by omega, rfl, (Frm.refl F w).al _, heap_alloc_new w _, he.al _, hl.al _, hs.al _⟩
  case round =>
    clear he hl hs
    obtain ⟨i, l', rfl, hi, hg, hlen, f, B, he, hl, hs⟩ := hrel
    have hG := Lib.hid hg
    have hL := Lib.hid hlen
    have n1 : w.heap.size < wr.heap.size := lt_of_block B
    clear hg hlen
    by_cases hlt : i < c.ents.length
    · have l1 : i < l'.length := by rw [hL.out]; exact hlt
      have q7 : wr.cell? ⟨w.heap.size, 7, none⟩ = some (.slice ae c.ents.length ce) := obj_cell B 7
      obtain ⟨b, off, rfl, -, hc⟩ := he.rd.at l1
      have e1 : wr.cell? ⟨b, off + i * 3 + 1, none⟩ = some (.int .i64 l'[i].2.1) := hc 1 _ rfl
      have hz : wr.frozen? ⟨b, off + i * 3 + 1, none⟩ = false := he.frz l1 _
      obtain ⟨x, hx⟩ : ∃ x, Hid (x = l'[i]) := ⟨_, Lib.hid rfl⟩
      have OS := fun u => he.set l1 (j := 1) (by decide) (.int .i64 u) (l'[i].1, u, l'[i].2.2) rfl
      rw [← hx.out] at e1
      obtain ⟨cur, hcur⟩ := he.objat l1
      have HC := Lib.hid hcur
      clear hc hcur
      go_wp2
      refine wp_region_plan [([0, 1, 2, 3, 4, 5, 6, 7, 8, 9, 10], [1]), ([11, 12, 13, 14], [])] 47 (by kernel_rfl) (by kernel_rfl) (by simp) ?_
      intro N hN
      simp only [wpSegs, List.map_cons, List.map_nil, List.getD_cons_zero, List.getD_cons_succ]
      go_wp2
      refine ⟨again_cons (again_of rfl rfl ?_) again_nil, ?_⟩
      · go_simp
      go_wp2
      have K := OS (bits .xor .i64 x.2.1 90)
      have hbw := K.2.1.2
      go_roundg (c.ents.length - (i + 1) + 1)
      case measure => have := hG.out; omega
      case rel =>
        exact ⟨i + 1, _, by go_num, by omega, rfl, by rw [List.length_set]; exact hL.out, (f.sc K.2.1.1 _ _).trans (Frm.drew _ _), obj_setCell_ne B (by omega) _, K.2.2.no (Frm.drew No _), (hl.st_ne HC.out (by decide) _ _).no (Frm.drew No _), (hs.st_ne HC.out (by decide) _ _).no (Frm.drew No _)⟩
    · have hii : ¬ ((i : Int) < c.ents.length) := by omega
      have q7 : wr.cell? ⟨w.heap.size, 7, none⟩ = some (.slice ae c.ents.length ce) := obj_cell B 7
      have q8 : wr.cell? ⟨w.heap.size, 8, none⟩ = some (.slice al c.elems.length cl) := obj_cell B 8
      go_wp2
      have hq := Lib.hid q7
      clear q7 q8 hii he
      go_loopg [3] (c.elems.length + 1) (fun g iv wr' => ∃ (i : Nat) (l' : List El), iv = .int .i64 i ∧ i ≤ c.elems.length ∧ g = c.elems.length - i + 1 ∧ l'.length = c.elems.length ∧ Frm F w wr' ∧ wr'.heap[w.heap.size]? = some (.cells #[.int .i64 c.kind, .bool c.set, .int .i64 c.st.1, .int .i64 c.st.2, .string c.value, .int .i64 c.num.1, .int .i64 c.num.2, .slice ae c.ents.length ce, .slice al c.elems.length cl, .slice at_ c.seen.length cs] 30 (0, 0)) ∧
        Ow wr' (fun k => F k ∧ k < w.heap.size) 59 eEl (.slice al c.elems.length cl) l' ∧ Ow wr' (fun k => F k ∧ k < w.heap.size) 3 eInt (.slice at_ c.seen.length cs) c.seen)
      case atStart => exact ⟨0, c.elems, rfl, Nat.zero_le _, by omega, rfl, f, B, hl, hs⟩
      case round =>
        clear hl hs B f hq
        clear hlt n1 hG
        obtain ⟨i, l', rfl, hi, hg, hlen, f, B, hl, hs⟩ := hrel
        have hG := Lib.hid hg
        have hL := Lib.hid hlen
        have n1 : w.heap.size < wr.heap.size := lt_of_block B
        clear hg hlen
        by_cases hlt : i < c.elems.length
        · have l1 : i < l'.length := by rw [hL.out]; exact hlt
          have q8 : wr.cell? ⟨w.heap.size, 8, none⟩ = some (.slice al c.elems.length cl) := obj_cell B 8
          obtain ⟨b, off, rfl, -, hc⟩ := hl.rd.at l1
          have e1 : wr.cell? ⟨b, off + i * 5 + 2, none⟩ = some (.int .i64 l'[i].2.2.1) := hc 2 _ rfl
          have hz : wr.frozen? ⟨b, off + i * 5 + 2, none⟩ = false := hl.frz l1 _
          obtain ⟨x, hx⟩ : ∃ x, Hid (x = l'[i]) := ⟨_, Lib.hid rfl⟩
          have OS := fun u => hl.set l1 (j := 2) (by decide) (.int .i64 u) (l'[i].1, l'[i].2.1, u, l'[i].2.2.2) rfl
          rw [← hx.out] at e1
          obtain ⟨cur, hcur⟩ := hl.objat l1
          have HC := Lib.hid hcur
          clear hc hcur
          go_wp2
          refine wp_region_plan [([0, 1, 2, 3, 4, 5, 6, 7, 8, 9], [1]), ([10, 11, 12], [])] 47 (by kernel_rfl) (by kernel_rfl) (by simp) ?_
          intro N hN
          simp only [wpSegs, List.map_cons, List.map_nil, List.getD_cons_zero, List.getD_cons_succ]
          go_wp2
          refine ⟨again_cons (again_of rfl rfl ?_) again_nil, ?_⟩
          · go_simp
          go_wp2
          have K := OS (bits .xor .i64 x.2.2.1 90)
          have hbw := K.2.1.2
          go_roundg (c.elems.length - (i + 1) + 1)
          case measure => have := hG.out; omega
          case rel =>
            exact ⟨i + 1, _, by go_num, by omega, rfl, by rw [List.length_set]; exact hL.out, (f.sc K.2.1.1 _ _).trans (Frm.drew _ _), obj_setCell_ne B (by omega) _, K.2.2.no (Frm.drew No _), (hs.st_ne HC.out (by decide) _ _).no (Frm.drew No _)⟩
        · have hii : ¬ ((i : Int) < c.elems.length) := by omega
          have q8 : wr.cell? ⟨w.heap.size, 8, none⟩ = some (.slice al c.elems.length cl) := obj_cell B 8
          have q9 : wr.cell? ⟨w.heap.size, 9, none⟩ = some (.slice at_ c.seen.length cs) := obj_cell B 9
          go_wp2_with (go_at_call 47; refine (spoilInts_ok hs hm3).mono ?_; rintro e w' ⟨rfl, f2⟩)
          go_end0
          exact ⟨rfl, f.trans (f2.mono fun k _ hk => hk.1)⟩
end Go.Proofs.YtofikfkgiblblaaGreatDoor

/- Two cells that are alike are told to be alike. -/
namespace Go.Proofs.YtofikfkgiblblaaGreatDoor
set_option linter.unusedVariables false
set_option linter.unusedSimpArgs false
open Go.RowKit Go.Lib Go.Tt
set_option maxHeartbeats 1000000 in
set_option maxRecDepth 100000 in
theorem sameCell_ok {w : World} {c : CellV} {ve vl vs ve' vl' vs' : Value} (h : CellR w c ve vl vs) (h' : CellR w c ve' vl' vs') :
    Calls Tryz.prog 17 #[cval c ve vl vs, cval c ve' vl' vs'] w fun e w' => e = .returned (.bool true) ∧ Frm No w w' := by
  obtain ⟨he, hl, hs⟩ := h
  obtain ⟨he', hl', hs'⟩ := h'
  obtain ⟨ae, ce, rfl⟩ := he.sh
  obtain ⟨al, cl, rfl⟩ := hl.sh
  obtain ⟨at_, cs, rfl⟩ := hs.sh
  obtain ⟨ae', ce', rfl⟩ := he'.sh
  obtain ⟨al', cl', rfl⟩ := hl'.sh
  obtain ⟨at_', cs', rfl⟩ := hs'.sh
  have hS := fun W (f : Frm No w W) => sameInts_ok (hs.no f) (hs'.no f)
  simp only [decide_true] at hS
  unfold cval
  go_enter Tryz.func17, Tryz.ntmps17
  go_wp2_with (go_at_call 26; refine (hS _ (((Frm.refl No w).al _).al _)).mono ?_; rintro e w' ⟨rfl, m, rfl⟩)
  clear hS
  have he1 := Lib.hid he
  have he2 := Lib.hid he'
  have hl1 := Lib.hid hl
  have hl2 := Lib.hid hl'
  have hm1 : c.ents.length ≤ 2 ^ 63 - 1 := by obtain ⟨-, h1, h2, -⟩ := he.facts; unfold maxLen at h2; omega
  have hm2 : c.elems.length ≤ 2 ^ 63 - 1 := by obtain ⟨-, h1, h2, -⟩ := hl.facts; unfold maxLen at h2; omega
  clear he he' hl hl' hs hs'
  go_loopg [5] (c.ents.length + 1) (fun g iv wr => ∃ (i : Nat), iv = .int .i64 i ∧ i ≤ c.ents.length ∧ g = c.ents.length - i + 1 ∧ Frm No w wr ∧ wr.heap[w.heap.size]? = some (.cells #[.int .i64 c.kind, .bool c.set, .int .i64 c.st.1, .int .i64 c.st.2, .string c.value, .int .i64 c.num.1, .int .i64 c.num.2, .slice ae c.ents.length ce, .slice al c.elems.length cl, .slice at_ c.seen.length cs] 30 (0, 0)) ∧ wr.heap[w.heap.size + 1]? = some (.cells #[.int .i64 c.kind, .bool c.set, .int .i64 c.st.1, .int .i64 c.st.2, .string c.value, .int .i64 c.num.1, .int .i64 c.num.2, .slice ae' c.ents.length ce', .slice al' c.elems.length cl', .slice at_' c.seen.length cs'] 30 (0, 0)))
  case atStart => exact ⟨0, rfl, Nat.zero_le _, by omega, (((Frm.refl No w).al _).al _).dr _, al_old (heap_alloc_new w _), al_at (by simp)⟩
  case round =>
    obtain ⟨i, rfl, hi, hg, f, B, C⟩ := hrel
    have hG := Lib.hid hg
    clear hg
    have q7 : wr.cell? ⟨w.heap.size, 7, none⟩ = some (.slice ae c.ents.length ce) := obj_cell B 7
    have p7 : wr.cell? ⟨w.heap.size + 1, 7, none⟩ = some (.slice ae' c.ents.length ce') := obj_cell C 7
    by_cases hlt : i < c.ents.length
    · obtain ⟨b, off, rfl, -, hc⟩ := (he1.out.no f).at hlt
      obtain ⟨b', off', rfl, -, hc'⟩ := (he2.out.no f).at hlt
      obtain ⟨x, hx⟩ : ∃ x, Hid (x = c.ents[i]) := ⟨_, Lib.hid rfl⟩
      rw [← hx.out] at hc hc'
      have e0 : wr.cell? ⟨b, off + i * 3, none⟩ = some (.int .i64 x.1) := hc 0 _ rfl
      have e1 : wr.cell? ⟨b, off + i * 3 + 1, none⟩ = some (.int .i64 x.2.1) := hc 1 _ rfl
      have e2 : wr.cell? ⟨b, off + i * 3 + 2, none⟩ = some (.string x.2.2) := hc 2 _ rfl
      have d0 : wr.cell? ⟨b', off' + i * 3, none⟩ = some (.int .i64 x.1) := hc' 0 _ rfl
      have d1 : wr.cell? ⟨b', off' + i * 3 + 1, none⟩ = some (.int .i64 x.2.1) := hc' 1 _ rfl
      have d2 : wr.cell? ⟨b', off' + i * 3 + 2, none⟩ = some (.string x.2.2) := hc' 2 _ rfl
      clear hc hc'
      go_wp2
      refine wp_region_plan [([0, 1, 2, 3, 4, 5, 6, 7, 8, 9, 10], [])] 102 (by kernel_rfl) (by kernel_rfl) (by simp) ?_
      intro N hN
      simp only [wpSegs, List.map_cons, List.map_nil, List.getD_cons_zero, List.getD_cons_succ]
      go_wp2
      go_roundg (c.ents.length - (i + 1) + 1)
      case measure => have := hG.out; omega
      case rel => exact ⟨i + 1, by go_num, by omega, rfl, f.trans (Frm.drew _ _), B, C⟩
    · have hii : ¬ ((i : Int) < c.ents.length) := by omega
      go_wp2
      clear q7 p7 hii hlt he1 he2
      go_loopg [6] (c.elems.length + 1) (fun g iv wr' => ∃ (i : Nat), iv = .int .i64 i ∧ i ≤ c.elems.length ∧ g = c.elems.length - i + 1 ∧ Frm No w wr' ∧ wr'.heap[w.heap.size]? = some (.cells #[.int .i64 c.kind, .bool c.set, .int .i64 c.st.1, .int .i64 c.st.2, .string c.value, .int .i64 c.num.1, .int .i64 c.num.2, .slice ae c.ents.length ce, .slice al c.elems.length cl, .slice at_ c.seen.length cs] 30 (0, 0)) ∧ wr'.heap[w.heap.size + 1]? = some (.cells #[.int .i64 c.kind, .bool c.set, .int .i64 c.st.1, .int .i64 c.st.2, .string c.value, .int .i64 c.num.1, .int .i64 c.num.2, .slice ae' c.ents.length ce', .slice al' c.elems.length cl', .slice at_' c.seen.length cs'] 30 (0, 0)))
      case atStart => exact ⟨0, rfl, Nat.zero_le _, by omega, f, B, C⟩
      case round =>
        clear f B C hG
        obtain ⟨i, rfl, hi, hg, f, B, C⟩ := hrel
        have hG := Lib.hid hg
        clear hg
        have q8 : wr.cell? ⟨w.heap.size, 8, none⟩ = some (.slice al c.elems.length cl) := obj_cell B 8
        have p8 : wr.cell? ⟨w.heap.size + 1, 8, none⟩ = some (.slice al' c.elems.length cl') := obj_cell C 8
        by_cases hlt : i < c.elems.length
        · obtain ⟨b, off, rfl, -, hc⟩ := (hl1.out.no f).at hlt
          obtain ⟨b', off', rfl, -, hc'⟩ := (hl2.out.no f).at hlt
          obtain ⟨x, hx⟩ : ∃ x, Hid (x = c.elems[i]) := ⟨_, Lib.hid rfl⟩
          rw [← hx.out] at hc hc'
          have e0 : wr.cell? ⟨b, off + i * 5, none⟩ = some (.int .i64 x.1) := hc 0 _ rfl
          have e1 : wr.cell? ⟨b, off + i * 5 + 1, none⟩ = some (.int .i64 x.2.1) := hc 1 _ rfl
          have e2 : wr.cell? ⟨b, off + i * 5 + 2, none⟩ = some (.int .i64 x.2.2.1) := hc 2 _ rfl
          have e3 : wr.cell? ⟨b, off + i * 5 + 3, none⟩ = some (.string x.2.2.2.1) := hc 3 _ rfl
          have e4 : wr.cell? ⟨b, off + i * 5 + 4, none⟩ = some (.bool x.2.2.2.2) := hc 4 _ rfl
          have d0 : wr.cell? ⟨b', off' + i * 5, none⟩ = some (.int .i64 x.1) := hc' 0 _ rfl
          have d1 : wr.cell? ⟨b', off' + i * 5 + 1, none⟩ = some (.int .i64 x.2.1) := hc' 1 _ rfl
          have d2 : wr.cell? ⟨b', off' + i * 5 + 2, none⟩ = some (.int .i64 x.2.2.1) := hc' 2 _ rfl
          have d3 : wr.cell? ⟨b', off' + i * 5 + 3, none⟩ = some (.string x.2.2.2.1) := hc' 3 _ rfl
          have d4 : wr.cell? ⟨b', off' + i * 5 + 4, none⟩ = some (.bool x.2.2.2.2) := hc' 4 _ rfl
          clear hc hc'
          go_wp2
          refine wp_region_plan [([0, 1, 2, 3, 4, 5, 6, 7, 8, 9, 10], [])] 102 (by kernel_rfl) (by kernel_rfl) (by simp) ?_
          intro N hN
          simp only [wpSegs, List.map_cons, List.map_nil, List.getD_cons_zero, List.getD_cons_succ]
          go_wp2
          go_roundg (c.elems.length - (i + 1) + 1)
          case measure => have := hG.out; omega
          case rel => exact ⟨i + 1, by go_num, by omega, rfl, f.trans (Frm.drew _ _), B, C⟩
        · have hii : ¬ ((i : Int) < c.elems.length) := by omega
          go_wp2
          go_ret
          exact ⟨rfl, f⟩
end Go.Proofs.YtofikfkgiblblaaGreatDoor

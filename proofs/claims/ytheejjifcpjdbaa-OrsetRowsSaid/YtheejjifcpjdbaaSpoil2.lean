/- A cell of one's own, written over: nothing else turns. -/
import Derived.Test.YtheejjifcpjdbaaSpoil
namespace Go.Proofs.Ytheejjifcpjdbaa
set_option linter.unusedVariables false
set_option linter.unusedSimpArgs false
open Go.RowKit Go.Lib Go.Tt
set_option maxHeartbeats 1000000 in
set_option maxRecDepth 100000 in
theorem spoilCell_ok {w : World} {F : Nat → Prop} {c : CellV} {ve vl vs : Value} (h : CellO w F c ve vl vs) :
    Calls Try.prog 52 #[cval c ve vl vs] w fun e w' => e = .returned (.tuple #[]) ∧ Frm F w w' := by
  have h' := h.mono (G := fun k => F k ∧ k < w.heap.size) fun k hk hf => ⟨hf, hk⟩
  obtain ⟨he, hl, hs⟩ := h'
  obtain ⟨ae, ce, rfl⟩ := he.sh
  obtain ⟨al, cl, rfl⟩ := hl.sh
  obtain ⟨at_, cs, rfl⟩ := hs.sh
  clear h
  unfold cval
  go_enter Try.func52, Try.ntmps52
  go_wp2
  obtain ⟨ne, hne⟩ : ∃ n, Hid (n = c.ents.length) := ⟨_, Lib.hid rfl⟩
  have hm1 : c.ents.length ≤ 2 ^ 63 - 1 := by obtain ⟨-, h1, h2, -⟩ := he.rd.facts; unfold maxLen at h2; omega
  have hm2 : c.elems.length ≤ 2 ^ 63 - 1 := by obtain ⟨-, h1, h2, -⟩ := hl.rd.facts; unfold maxLen at h2; omega
  have hm3 : c.seen.length ≤ maxLen := by obtain ⟨-, h1, h2, -⟩ := hs.rd.facts; omega
  go_loopg [2] (c.ents.length + 1) (fun g iv wr => ∃ (i : Nat) (l' : List En), iv = .int .i64 i ∧ i ≤ c.ents.length ∧ g = c.ents.length - i + 1 ∧ l'.length = c.ents.length ∧ Frm F w wr ∧ wr.heap[w.heap.size]? = some (.cells #[.int .i64 c.kind, .bool c.set, .int .i64 c.st.1, .int .i64 c.st.2, .string c.value, .int .i64 c.num.1, .int .i64 c.num.2, .slice ae c.ents.length ce, .slice al c.elems.length cl, .slice at_ c.seen.length cs] 59 (0, 0)) ∧
    Ow wr (fun k => F k ∧ k < w.heap.size) 90 eEn (.slice ae c.ents.length ce) l' ∧ Ow wr (fun k => F k ∧ k < w.heap.size) 111 eEl (.slice al c.elems.length cl) c.elems ∧ Ow wr (fun k => F k ∧ k < w.heap.size) 3 eInt (.slice at_ c.seen.length cs) c.seen)
  case atStart => exact ⟨0, c.ents, rfl, Nat.zero_le _, by omega, rfl, (Frm.refl F w).al _, heap_alloc_new w _, he.al _, hl.al _, hs.al _⟩
  case round =>
    clear he hl hs
    obtain ⟨i, l', rfl, hi, hg, hlen, f, B, he, hl, hs⟩ := hrel
    have hG := Lib.hid hg
    have hL := Lib.hid hlen
    have n1 : w.heap.size < wr.heap.size := lt_of_block B
    clear hg hlen
    by_cases hlt : i < c.ents.length
    · have l1 : i < l'.length := by rw [hL.out]; exact hlt
      have q7 : wr.cell? ⟨w.heap.size, 7, none⟩ = some (.slice ae c.ents.length ce) := obj_cell B 7
      obtain ⟨b, off, rfl, -, hc⟩ := he.rd.at l1
      have e1 : wr.cell? ⟨b, off + i * 3 + 1, none⟩ = some (.int .i64 l'[i].2.1) := hc 1 _ rfl
      have hz : wr.frozen? ⟨b, off + i * 3 + 1, none⟩ = false := he.frz l1 _
      obtain ⟨x, hx⟩ : ∃ x, Hid (x = l'[i]) := ⟨_, Lib.hid rfl⟩
      have OS := fun u => he.set l1 (j := 1) (by decide) (.int .i64 u) (l'[i].1, u, l'[i].2.2) rfl
      rw [← hx.out] at e1
      obtain ⟨cur, hcur⟩ := he.objat l1
      have HC := Lib.hid hcur
      clear hc hcur
      go_wp2
      refine wp_region_plan [([0, 1, 2, 3, 4, 5, 6, 7, 8, 9, 10], [1]), ([11, 12, 13, 14], [])] 47 (by kernel_rfl) (by kernel_rfl) (by simp) ?_
      intro N hN
      simp only [wpSegs, List.map_cons, List.map_nil, List.getD_cons_zero, List.getD_cons_succ]
      go_wp2
      refine ⟨again_cons (again_of rfl rfl ?_) again_nil, ?_⟩
      · go_simp
      go_wp2
      have K := OS (bits .xor .i64 x.2.1 90)
      have hbw := K.2.1.2
      go_roundg (c.ents.length - (i + 1) + 1)
      case measure => have := hG.out; omega
      case rel =>
        exact ⟨i + 1, _, by go_num, by omega, rfl, by rw [List.length_set]; exact hL.out, (f.sc K.2.1.1 _ _).trans (Frm.drew _ _), obj_setCell_ne B (by omega) _, K.2.2.no (Frm.drew No _), (hl.st_ne HC.out (by decide) _ _).no (Frm.drew No _), (hs.st_ne HC.out (by decide) _ _).no (Frm.drew No _)⟩
    · have hii : ¬ ((i : Int) < c.ents.length) := by omega
      have q7 : wr.cell? ⟨w.heap.size, 7, none⟩ = some (.slice ae c.ents.length ce) := obj_cell B 7
      have q8 : wr.cell? ⟨w.heap.size, 8, none⟩ = some (.slice al c.elems.length cl) := obj_cell B 8
      go_wp2
      have hq := Lib.hid q7
      clear q7 q8 hii he
      go_loopg [3] (c.elems.length + 1) (fun g iv wr' => ∃ (i : Nat) (l' : List El), iv = .int .i64 i ∧ i ≤ c.elems.length ∧ g = c.elems.length - i + 1 ∧ l'.length = c.elems.length ∧ Frm F w wr' ∧ wr'.heap[w.heap.size]? = some (.cells #[.int .i64 c.kind, .bool c.set, .int .i64 c.st.1, .int .i64 c.st.2, .string c.value, .int .i64 c.num.1, .int .i64 c.num.2, .slice ae c.ents.length ce, .slice al c.elems.length cl, .slice at_ c.seen.length cs] 59 (0, 0)) ∧
        Ow wr' (fun k => F k ∧ k < w.heap.size) 111 eEl (.slice al c.elems.length cl) l' ∧ Ow wr' (fun k => F k ∧ k < w.heap.size) 3 eInt (.slice at_ c.seen.length cs) c.seen)
      case atStart => exact ⟨0, c.elems, rfl, Nat.zero_le _, by omega, rfl, f, B, hl, hs⟩
      case round =>
        clear hl hs B f hq
        clear hlt n1 hG
        obtain ⟨i, l', rfl, hi, hg, hlen, f, B, hl, hs⟩ := hrel
        have hG := Lib.hid hg
        have hL := Lib.hid hlen
        have n1 : w.heap.size < wr.heap.size := lt_of_block B
        clear hg hlen
        by_cases hlt : i < c.elems.length
        · have l1 : i < l'.length := by rw [hL.out]; exact hlt
          have q8 : wr.cell? ⟨w.heap.size, 8, none⟩ = some (.slice al c.elems.length cl) := obj_cell B 8
          obtain ⟨b, off, rfl, -, hc⟩ := hl.rd.at l1
          have e1 : wr.cell? ⟨b, off + i * 5 + 2, none⟩ = some (.int .i64 l'[i].2.2.1) := hc 2 _ rfl
          have hz : wr.frozen? ⟨b, off + i * 5 + 2, none⟩ = false := hl.frz l1 _
          obtain ⟨x, hx⟩ : ∃ x, Hid (x = l'[i]) := ⟨_, Lib.hid rfl⟩
          have OS := fun u => hl.set l1 (j := 2) (by decide) (.int .i64 u) (l'[i].1, l'[i].2.1, u, l'[i].2.2.2) rfl
          rw [← hx.out] at e1
          obtain ⟨cur, hcur⟩ := hl.objat l1
          have HC := Lib.hid hcur
          clear hc hcur
          go_wp2
          refine wp_region_plan [([0, 1, 2, 3, 4, 5, 6, 7, 8, 9], [1]), ([10, 11, 12], [])] 47 (by kernel_rfl) (by kernel_rfl) (by simp) ?_
          intro N hN
          simp only [wpSegs, List.map_cons, List.map_nil, List.getD_cons_zero, List.getD_cons_succ]
          go_wp2
          refine ⟨again_cons (again_of rfl rfl ?_) again_nil, ?_⟩
          · go_simp
          go_wp2
          have K := OS (bits .xor .i64 x.2.2.1 90)
          have hbw := K.2.1.2
          go_roundg (c.elems.length - (i + 1) + 1)
          case measure => have := hG.out; omega
          case rel =>
            exact ⟨i + 1, _, by go_num, by omega, rfl, by rw [List.length_set]; exact hL.out, (f.sc K.2.1.1 _ _).trans (Frm.drew _ _), obj_setCell_ne B (by omega) _, K.2.2.no (Frm.drew No _), (hs.st_ne HC.out (by decide) _ _).no (Frm.drew No _)⟩
        · have hii : ¬ ((i : Int) < c.elems.length) := by omega
          have q8 : wr.cell? ⟨w.heap.size, 8, none⟩ = some (.slice al c.elems.length cl) := obj_cell B 8
          have q9 : wr.cell? ⟨w.heap.size, 9, none⟩ = some (.slice at_ c.seen.length cs) := obj_cell B 9
          go_wp2_with (go_at_call 79; refine (spoilInts_ok hs hm3).mono ?_; rintro e w' ⟨rfl, f2⟩)
          go_end0
          exact ⟨rfl, f.trans (f2.mono fun k _ hk => hk.1)⟩
end Go.Proofs.Ytheejjifcpjdbaa

/- Two cells that are alike are told to be alike. -/
import Derived.Test.YtheejjifcpjdbaaSpoil2
namespace Go.Proofs.Ytheejjifcpjdbaa
set_option linter.unusedVariables false
set_option linter.unusedSimpArgs false
open Go.RowKit Go.Lib Go.Tt
set_option maxHeartbeats 1000000 in
set_option maxRecDepth 100000 in
theorem sameCell_ok {w : World} {c : CellV} {ve vl vs ve' vl' vs' : Value} (h : CellR w c ve vl vs) (h' : CellR w c ve' vl' vs') :
    Calls Try.prog 49 #[cval c ve vl vs, cval c ve' vl' vs'] w fun e w' => e = .returned (.bool true) ∧ Frm No w w' := by
  obtain ⟨he, hl, hs⟩ := h
  obtain ⟨he', hl', hs'⟩ := h'
  obtain ⟨ae, ce, rfl⟩ := he.sh
  obtain ⟨al, cl, rfl⟩ := hl.sh
  obtain ⟨at_, cs, rfl⟩ := hs.sh
  obtain ⟨ae', ce', rfl⟩ := he'.sh
  obtain ⟨al', cl', rfl⟩ := hl'.sh
  obtain ⟨at_', cs', rfl⟩ := hs'.sh
  have hS := fun W (f : Frm No w W) => sameInts_ok (hs.no f) (hs'.no f)
  simp only [decide_true] at hS
  unfold cval
  go_enter Try.func49, Try.ntmps49
  go_wp2_with (go_at_call 78; refine (hS _ (((Frm.refl No w).al _).al _)).mono ?_; rintro e w' ⟨rfl, m, rfl⟩)
  clear hS
  have he1 := Lib.hid he
  have he2 := Lib.hid he'
  have hl1 := Lib.hid hl
  have hl2 := Lib.hid hl'
  have hm1 : c.ents.length ≤ 2 ^ 63 - 1 := by obtain ⟨-, h1, h2, -⟩ := he.facts; unfold maxLen at h2; omega
  have hm2 : c.elems.length ≤ 2 ^ 63 - 1 := by obtain ⟨-, h1, h2, -⟩ := hl.facts; unfold maxLen at h2; omega
  clear he he' hl hl' hs hs'
  go_loopg [5] (c.ents.length + 1) (fun g iv wr => ∃ (i : Nat), iv = .int .i64 i ∧ i ≤ c.ents.length ∧ g = c.ents.length - i + 1 ∧ Frm No w wr ∧ wr.heap[w.heap.size]? = some (.cells #[.int .i64 c.kind, .bool c.set, .int .i64 c.st.1, .int .i64 c.st.2, .string c.value, .int .i64 c.num.1, .int .i64 c.num.2, .slice ae c.ents.length ce, .slice al c.elems.length cl, .slice at_ c.seen.length cs] 59 (0, 0)) ∧ wr.heap[w.heap.size + 1]? = some (.cells #[.int .i64 c.kind, .bool c.set, .int .i64 c.st.1, .int .i64 c.st.2, .string c.value, .int .i64 c.num.1, .int .i64 c.num.2, .slice ae' c.ents.length ce', .slice al' c.elems.length cl', .slice at_' c.seen.length cs'] 59 (0, 0)))
  case atStart => exact ⟨0, rfl, Nat.zero_le _, by omega, (((Frm.refl No w).al _).al _).dr _, al_old (heap_alloc_new w _), al_at (by simp)⟩
  case round =>
    obtain ⟨i, rfl, hi, hg, f, B, C⟩ := hrel
    have hG := Lib.hid hg
    clear hg
    have q7 : wr.cell? ⟨w.heap.size, 7, none⟩ = some (.slice ae c.ents.length ce) := obj_cell B 7
    have p7 : wr.cell? ⟨w.heap.size + 1, 7, none⟩ = some (.slice ae' c.ents.length ce') := obj_cell C 7
    by_cases hlt : i < c.ents.length
    · obtain ⟨b, off, rfl, -, hc⟩ := (he1.out.no f).at hlt
      obtain ⟨b', off', rfl, -, hc'⟩ := (he2.out.no f).at hlt
      obtain ⟨x, hx⟩ : ∃ x, Hid (x = c.ents[i]) := ⟨_, Lib.hid rfl⟩
      rw [← hx.out] at hc hc'
      have e0 : wr.cell? ⟨b, off + i * 3, none⟩ = some (.int .i64 x.1) := hc 0 _ rfl
      have e1 : wr.cell? ⟨b, off + i * 3 + 1, none⟩ = some (.int .i64 x.2.1) := hc 1 _ rfl
      have e2 : wr.cell? ⟨b, off + i * 3 + 2, none⟩ = some (.string x.2.2) := hc 2 _ rfl
      have d0 : wr.cell? ⟨b', off' + i * 3, none⟩ = some (.int .i64 x.1) := hc' 0 _ rfl
      have d1 : wr.cell? ⟨b', off' + i * 3 + 1, none⟩ = some (.int .i64 x.2.1) := hc' 1 _ rfl
      have d2 : wr.cell? ⟨b', off' + i * 3 + 2, none⟩ = some (.string x.2.2) := hc' 2 _ rfl
      clear hc hc'
      go_wp2
      refine wp_region_plan [([0, 1, 2, 3, 4, 5, 6, 7, 8, 9, 10], [])] 102 (by kernel_rfl) (by kernel_rfl) (by simp) ?_
      intro N hN
      simp only [wpSegs, List.map_cons, List.map_nil, List.getD_cons_zero, List.getD_cons_succ]
      go_wp2
      go_roundg (c.ents.length - (i + 1) + 1)
      case measure => have := hG.out; omega
      case rel => exact ⟨i + 1, by go_num, by omega, rfl, f.trans (Frm.drew _ _), B, C⟩
    · have hii : ¬ ((i : Int) < c.ents.length) := by omega
      go_wp2
      clear q7 p7 hii hlt he1 he2
      go_loopg [6] (c.elems.length + 1) (fun g iv wr' => ∃ (i : Nat), iv = .int .i64 i ∧ i ≤ c.elems.length ∧ g = c.elems.length - i + 1 ∧ Frm No w wr' ∧ wr'.heap[w.heap.size]? = some (.cells #[.int .i64 c.kind, .bool c.set, .int .i64 c.st.1, .int .i64 c.st.2, .string c.value, .int .i64 c.num.1, .int .i64 c.num.2, .slice ae c.ents.length ce, .slice al c.elems.length cl, .slice at_ c.seen.length cs] 59 (0, 0)) ∧ wr'.heap[w.heap.size + 1]? = some (.cells #[.int .i64 c.kind, .bool c.set, .int .i64 c.st.1, .int .i64 c.st.2, .string c.value, .int .i64 c.num.1, .int .i64 c.num.2, .slice ae' c.ents.length ce', .slice al' c.elems.length cl', .slice at_' c.seen.length cs'] 59 (0, 0)))
      case atStart => exact ⟨0, rfl, Nat.zero_le _, by omega, f, B, C⟩
      case round =>
        clear f B C hG
        obtain ⟨i, rfl, hi, hg, f, B, C⟩ := hrel
        have hG := Lib.hid hg
        clear hg
        have q8 : wr.cell? ⟨w.heap.size, 8, none⟩ = some (.slice al c.elems.length cl) := obj_cell B 8
        have p8 : wr.cell? ⟨w.heap.size + 1, 8, none⟩ = some (.slice al' c.elems.length cl') := obj_cell C 8
        by_cases hlt : i < c.elems.length
        · obtain ⟨b, off, rfl, -, hc⟩ := (hl1.out.no f).at hlt
          obtain ⟨b', off', rfl, -, hc'⟩ := (hl2.out.no f).at hlt
          obtain ⟨x, hx⟩ : ∃ x, Hid (x = c.elems[i]) := ⟨_, Lib.hid rfl⟩
          rw [← hx.out] at hc hc'
          have e0 : wr.cell? ⟨b, off + i * 5, none⟩ = some (.int .i64 x.1) := hc 0 _ rfl
          have e1 : wr.cell? ⟨b, off + i * 5 + 1, none⟩ = some (.int .i64 x.2.1) := hc 1 _ rfl
          have e2 : wr.cell? ⟨b, off + i * 5 + 2, none⟩ = some (.int .i64 x.2.2.1) := hc 2 _ rfl
          have e3 : wr.cell? ⟨b, off + i * 5 + 3, none⟩ = some (.string x.2.2.2.1) := hc 3 _ rfl
          have e4 : wr.cell? ⟨b, off + i * 5 + 4, none⟩ = some (.bool x.2.2.2.2) := hc 4 _ rfl
          have d0 : wr.cell? ⟨b', off' + i * 5, none⟩ = some (.int .i64 x.1) := hc' 0 _ rfl
          have d1 : wr.cell? ⟨b', off' + i * 5 + 1, none⟩ = some (.int .i64 x.2.1) := hc' 1 _ rfl
          have d2 : wr.cell? ⟨b', off' + i * 5 + 2, none⟩ = some (.int .i64 x.2.2.1) := hc' 2 _ rfl
          have d3 : wr.cell? ⟨b', off' + i * 5 + 3, none⟩ = some (.string x.2.2.2.1) := hc' 3 _ rfl
          have d4 : wr.cell? ⟨b', off' + i * 5 + 4, none⟩ = some (.bool x.2.2.2.2) := hc' 4 _ rfl
          clear hc hc'
          go_wp2
          refine wp_region_plan [([0, 1, 2, 3, 4, 5, 6, 7, 8, 9, 10], [])] 102 (by kernel_rfl) (by kernel_rfl) (by simp) ?_
          intro N hN
          simp only [wpSegs, List.map_cons, List.map_nil, List.getD_cons_zero, List.getD_cons_succ]
          go_wp2
          go_roundg (c.elems.length - (i + 1) + 1)
          case measure => have := hG.out; omega
          case rel => exact ⟨i + 1, by go_num, by omega, rfl, f.trans (Frm.drew _ _), B, C⟩
        · have hii : ¬ ((i : Int) < c.elems.length) := by omega
          go_wp2
          go_ret
          exact ⟨rfl, f⟩
end Go.Proofs.Ytheejjifcpjdbaa

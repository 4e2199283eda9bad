/- tattlelaw20.DiskKeeps answers true, for every input. -/
import Derived.Test.YtheejjifcpjdbaaAwake20
import Derived.Test.YtheejjifcpjdbaaView
import Derived.Deep.LoopGhost
namespace Go.Proofs.Ytheejjifcpjdbaa
set_option linter.unusedVariables false
set_option linter.unusedSimpArgs false
open Go.RowKit Go.Lib Go.Tt
/-- A slice of texts that came in. -/
def StrE (s : ByteArray) (cs : List Value) : Prop := cs = [.string s] ∧ s.size ≤ maxLen
set_option maxHeartbeats 2000000 in
set_option maxRecDepth 100000 in
theorem keeps_walk (synced keep : Int) (pa : Option Addr) (pn pc : Nat) (w : World) (ss : List ByteArray) (hp : SlE w 1 (.slice pa pn pc) ss StrE) : Calls Try.prog 5 #[.slice pa pn pc, .int .i64 synced, .int .i64 keep] w fun e w' => e = .returned (.bool true) ∧ Below w.heap.size w w' := by
  obtain ⟨c, hc, c1⟩ := mask_nat 1023 keep _ (and_1023 keep)
  go_enter Try.func5, Try.ntmps5
  go_wp2_with (fail)
  refine (awake20 _).mono ?_
  rintro e w0 ⟨rfl, f0⟩
  have b0 := f0.size
  go_wp2_with (fail)
  refine (new_ok _ _ (by omega) (by omega)).mono ?_
  rintro e w1 ⟨rfl, K1, f1, z1⟩
  replace K1 : DiskIs w1 (G w.heap.size No) w0.heap.size ⟨65536, false, [], []⟩ := K1.mono fun k hk h => ⟨by omega, id⟩
  have b1 : w.heap.size ≤ w1.heap.size := by omega
  go_wp2_with (go_at_call 23; refine (num_any _ _).mono ?_; rintro e w' ⟨rfl, rfl⟩)
  have bel1 : Below w.heap.size w w1 := f0.trans (f1.below (fun _ _ h => h) b0)
  obtain ⟨rfl, hn1, hn2, hnil, hat⟩ := hp.facts
  clear f0 f1 b0 hp
  go_loopg [9, 10, 11] (ss.length + 1) (fun g ka aa iv wr => ∃ (i : Nat) (D : DiskD), iv = .int .i64 i ∧ ka = .string (txt D.kept) ∧ aa = .string (txt (D.kept ++ D.waits)) ∧ i ≤ ss.length ∧ i ≤ 20 ∧ g = ss.length - i + 1 ∧
    D.size = 65536 ∧ D.down = false ∧ D.kept.length + D.waits.length ≤ 1000 * i ∧ DiskIs wr (G w.heap.size No) w0.heap.size D ∧ Below w.heap.size w wr ∧ w.heap.size ≤ wr.heap.size)
  case atStart => exact ⟨0, ⟨65536, false, [], []⟩, rfl, rfl, rfl, Nat.zero_le _, Nat.zero_le _, by omega, rfl, rfl, Nat.le_refl _, K1, bel1, b1⟩
  case round =>
    clear K1
    obtain ⟨i, D, rfl, rfl, rfl, hi, hi20, hg, hD, hdn, hall, K, bel, hsz⟩ := hrel
    have hG := Lib.hid hg
    have hDh := Lib.hid hD
    have hdh := Lib.hid hdn
    have hall := Lib.hid hall
    have hi20 := Lib.hid hi20
    by_cases hlt : i < ss.length
    · obtain ⟨pb, off, cs, rfl, ⟨rfl, hwf⟩, -, hcell⟩ := hat i hlt
      have hpb : pb < w.heap.size := by have := hcell 0 (by omega); exact World.block_lt_of_cell? _ _ this
      have hc0 : w.cell? ⟨pb, off + i, none⟩ = some (.string ss[i]) := by
        have := hcell 0 (by omega)
        rw [Nat.mul_one, Nat.add_zero] at this
        exact this
      generalize ss[i] = p at hc0 hwf
      clear hcell hat hg hnil hD hdn
      by_cases h30 : i < 20
      · have hcr : wr.cell? ⟨pb, off + i, none⟩ = some (.string p) := (bel.cell hpb).trans hc0
        have h00 := Lib.hid hc0
        clear hc0
        by_cases hbig : 1000 < p.size
        · go_wp2
          go_ret
          exact ⟨rfl, bel⟩
        · have hps : p.size ≤ 1000 := by omega
          have s1 := txt_size (D.kept ++ D.waits)
          have b64 : D.kept.length + D.waits.length ≤ 20000 := by have := hall.out; omega
          go_wp2_with (fail)
          refine (append_g K hsz G_none _ (E := 0) (D := { D with waits := D.waits ++ p.data.toList }) (by simp [DiskD.apE, hdh.out, hDh.out]; omega) (by simp [DiskD.apD, hdh.out, hDh.out]; omega)).mono ?_
          rintro e w3 ⟨rfl, K3, f3⟩
          have b3 := Nat.le_trans hsz f3.size
          have F3 : Below w.heap.size w w3 := bel.trans (f3.below (fun k hk h => by have := h.1; omega) hsz)
          have hc3 : w3.cell? ⟨pb, off + i, none⟩ = some (.string p) := (F3.cell hpb).trans h00.out
          clear hcr
          go_wp2_with (go_at_call 23; refine (num_any _ _).mono ?_; rintro e w' ⟨rfl, rfl⟩)
          · refine (sync_g K3 b3 G_none (E := 0) (D := ⟨65536, false, D.kept ++ (D.waits ++ p.data.toList), []⟩) (by simp [DiskD.syE, hdh.out]) (by simp [DiskD.syD, hdh.out, hDh.out])).mono ?_
            rintro e w4 ⟨rfl, K4, f4⟩
            have b4 := Nat.le_trans b3 f4.size
            have F4 : Below w.heap.size w w4 := F3.trans (f4.below (fun k hk h => by have := h.1; omega) b3)
            go_wp2_with (go_at_call 23; refine (num_any _ _).mono ?_; rintro e w' ⟨rfl, rfl⟩)
            go_roundg (ss.length - (i + 1) + 1)
            case measure => have := hG.out; omega
            case rel => exact ⟨i + 1, ⟨65536, false, D.kept ++ (D.waits ++ p.data.toList), []⟩, by go_num, by rw [← List.append_assoc, txt_app (_ ++ _), txt_of], by rw [List.append_nil, ← List.append_assoc, txt_app (_ ++ _), txt_of], by omega, by omega, rfl, rfl, rfl, by have := hall.out; have e : p.data.toList.length = p.size := (by rw [Array.length_toList]; rfl); simp only [List.length_append, List.length_nil]; omega, K4, F4, b4⟩
          · go_roundg (ss.length - (i + 1) + 1)
            case measure => have := hG.out; omega
            case rel => exact ⟨i + 1, { D with waits := D.waits ++ p.data.toList }, by go_num, rfl, by rw [← List.append_assoc, txt_app (_ ++ _), txt_of], by omega, by omega, rfl, hDh.out, hdh.out, by have := hall.out; have e : p.data.toList.length = p.size := (by rw [Array.length_toList]; rfl); simp only [List.length_append, List.length_nil]; omega, K3, F3, b3⟩
      · have hi' : ¬ ((i : Int) < 20) := by omega
        clear hc0
        have hk1 : D.kept.length ≤ 20000 := by have := hall.out; have := hi20.out; omega
        have hw1 : D.waits.length ≤ 20000 := by have := hall.out; have := hi20.out; omega
        have s1 := txt_size (D.kept ++ D.waits)
        rw [List.length_append] at s1
        have s2 := txt_size D.kept
        rcases Nat.lt_or_ge c D.waits.length with hcc | hcc
        · have e0 : ((D.kept.length : Int) + c : Int).toNat = D.kept.length + c := by omega
          have e1 : (txt (D.kept ++ D.waits)).extract 0 (D.kept.length + c) = txt (D.kept ++ D.waits.take c) := by
            rw [txt_take, List.take_length_add_append]
          have hq2 : (D.kept ++ D.waits.take c).length = D.kept.length + c := by rw [List.length_append, List.length_take]; omega
          go_wp2_with (fail)
          refine (crash_g K hsz G_none _ (E := 0) (D := ⟨65536, true, D.kept ++ D.waits.take c, []⟩) (by simp [DiskD.crE, hdh.out]; try omega) (by simp [DiskD.crD, hdh.out, hDh.out]; try omega)).mono ?_
          rintro e w3 ⟨rfl, K3, f3⟩
          go_wp2_with (fail)
          refine (restart_g K3 (E := 0) (D := ⟨65536, false, D.kept ++ D.waits.take c, []⟩) rfl rfl).mono ?_
          rintro e w4 ⟨rfl, K4, f4⟩
          have F5 : Below w.heap.size w w4 := bel.trans ((f3.trans f4).below (fun k hk h => by have := h.1; omega) hsz)
          have hX := txt_size (D.kept ++ D.waits.take c)
          rw [hq2] at hX
          go_wp2_with (first | (go_at_call 23; refine (num_any _ _).mono ?_; rintro e w' ⟨rfl, rfl⟩) | (go_at_call 35; refine (bytes_g K4 (E := 0) (S := txt (D.kept ++ D.waits.take c)) rfl rfl).mono ?_; rintro e w' ⟨rfl, rfl⟩) | (go_at_call 37; refine (room_g K4 (R := 65536 - (D.kept.length + c)) (by simp only [DiskD.room, hq2]; simp)).mono ?_; rintro e w' ⟨rfl, n, rfl⟩))
          go_ret
          exact ⟨rfl, below_drewN F5 _⟩
        · have e0 : ((D.kept.length : Int) + D.waits.length : Int).toNat = D.kept.length + D.waits.length := by omega
          have e1 : (txt (D.kept ++ D.waits)).extract 0 (D.kept.length + D.waits.length) = txt (D.kept ++ D.waits.take c) := by
            rw [txt_take, List.take_of_length_le hcc, List.take_of_length_le (by simp)]
          have hq2 : (D.kept ++ D.waits.take c).length = D.kept.length + D.waits.length := by rw [List.length_append, List.length_take]; omega
          go_wp2_with (fail)
          refine (crash_g K hsz G_none _ (E := 0) (D := ⟨65536, true, D.kept ++ D.waits.take c, []⟩) (by simp [DiskD.crE, hdh.out]; try omega) (by simp [DiskD.crD, hdh.out, hDh.out]; try omega)).mono ?_
          rintro e w3 ⟨rfl, K3, f3⟩
          go_wp2_with (fail)
          refine (restart_g K3 (E := 0) (D := ⟨65536, false, D.kept ++ D.waits.take c, []⟩) rfl rfl).mono ?_
          rintro e w4 ⟨rfl, K4, f4⟩
          have F5 : Below w.heap.size w w4 := bel.trans ((f3.trans f4).below (fun k hk h => by have := h.1; omega) hsz)
          have hX := txt_size (D.kept ++ D.waits.take c)
          rw [hq2] at hX
          go_wp2_with (first | (go_at_call 23; refine (num_any _ _).mono ?_; rintro e w' ⟨rfl, rfl⟩) | (go_at_call 35; refine (bytes_g K4 (E := 0) (S := txt (D.kept ++ D.waits.take c)) rfl rfl).mono ?_; rintro e w' ⟨rfl, rfl⟩) | (go_at_call 37; refine (room_g K4 (R := 65536 - (D.kept.length + D.waits.length)) (by simp only [DiskD.room, hq2]; simp)).mono ?_; rintro e w' ⟨rfl, n, rfl⟩))
          go_ret
          exact ⟨rfl, below_drewN F5 _⟩
    · have hnl : ¬ ((i : Int) < ss.length) := by omega
      clear hdn hD hg hat hnil
      have hk1 : D.kept.length ≤ 20000 := by have := hall.out; have := hi20.out; omega
      have hw1 : D.waits.length ≤ 20000 := by have := hall.out; have := hi20.out; omega
      have s1 := txt_size (D.kept ++ D.waits)
      rw [List.length_append] at s1
      have s2 := txt_size D.kept
      rcases Nat.lt_or_ge c D.waits.length with hcc | hcc
      · have e0 : ((D.kept.length : Int) + c : Int).toNat = D.kept.length + c := by omega
        have e1 : (txt (D.kept ++ D.waits)).extract 0 (D.kept.length + c) = txt (D.kept ++ D.waits.take c) := by
          rw [txt_take, List.take_length_add_append]
        have hq2 : (D.kept ++ D.waits.take c).length = D.kept.length + c := by rw [List.length_append, List.length_take]; omega
        go_wp2_with (fail)
        refine (crash_g K hsz G_none _ (E := 0) (D := ⟨65536, true, D.kept ++ D.waits.take c, []⟩) (by simp [DiskD.crE, hdh.out]; try omega) (by simp [DiskD.crD, hdh.out, hDh.out]; try omega)).mono ?_
        rintro e w3 ⟨rfl, K3, f3⟩
        go_wp2_with (fail)
        refine (restart_g K3 (E := 0) (D := ⟨65536, false, D.kept ++ D.waits.take c, []⟩) rfl rfl).mono ?_
        rintro e w4 ⟨rfl, K4, f4⟩
        have F5 : Below w.heap.size w w4 := bel.trans ((f3.trans f4).below (fun k hk h => by have := h.1; omega) hsz)
        have hX := txt_size (D.kept ++ D.waits.take c)
        rw [hq2] at hX
        go_wp2_with (first | (go_at_call 23; refine (num_any _ _).mono ?_; rintro e w' ⟨rfl, rfl⟩) | (go_at_call 35; refine (bytes_g K4 (E := 0) (S := txt (D.kept ++ D.waits.take c)) rfl rfl).mono ?_; rintro e w' ⟨rfl, rfl⟩) | (go_at_call 37; refine (room_g K4 (R := 65536 - (D.kept.length + c)) (by simp only [DiskD.room, hq2]; simp)).mono ?_; rintro e w' ⟨rfl, n, rfl⟩))
        go_ret
        exact ⟨rfl, below_drewN F5 _⟩
      · have e0 : ((D.kept.length : Int) + D.waits.length : Int).toNat = D.kept.length + D.waits.length := by omega
        have e1 : (txt (D.kept ++ D.waits)).extract 0 (D.kept.length + D.waits.length) = txt (D.kept ++ D.waits.take c) := by
          rw [txt_take, List.take_of_length_le hcc, List.take_of_length_le (by simp)]
        have hq2 : (D.kept ++ D.waits.take c).length = D.kept.length + D.waits.length := by rw [List.length_append, List.length_take]; omega
        go_wp2_with (fail)
        refine (crash_g K hsz G_none _ (E := 0) (D := ⟨65536, true, D.kept ++ D.waits.take c, []⟩) (by simp [DiskD.crE, hdh.out]; try omega) (by simp [DiskD.crD, hdh.out, hDh.out]; try omega)).mono ?_
        rintro e w3 ⟨rfl, K3, f3⟩
        go_wp2_with (fail)
        refine (restart_g K3 (E := 0) (D := ⟨65536, false, D.kept ++ D.waits.take c, []⟩) rfl rfl).mono ?_
        rintro e w4 ⟨rfl, K4, f4⟩
        have F5 : Below w.heap.size w w4 := bel.trans ((f3.trans f4).below (fun k hk h => by have := h.1; omega) hsz)
        have hX := txt_size (D.kept ++ D.waits.take c)
        rw [hq2] at hX
        go_wp2_with (first | (go_at_call 23; refine (num_any _ _).mono ?_; rintro e w' ⟨rfl, rfl⟩) | (go_at_call 35; refine (bytes_g K4 (E := 0) (S := txt (D.kept ++ D.waits.take c)) rfl rfl).mono ?_; rintro e w' ⟨rfl, rfl⟩) | (go_at_call 37; refine (room_g K4 (R := 65536 - (D.kept.length + D.waits.length)) (by simp only [DiskD.room, hq2]; simp)).mono ?_; rintro e w' ⟨rfl, n, rfl⟩))
        go_ret
        exact ⟨rfl, below_drewN F5 _⟩
set_option maxRecDepth 100000 in
open Go.WideShapes Go.ChangeAt in
/-- A slice of texts, opened. -/
theorem strs_in {H : Type} {enc : TypeId × Value → H} {W : World} {base : Nat} {v : Value} {d : DataW H} {ps : List MemPlace} (ok : Value.okWide Try.prog W .any base 45 v) (h : DataW.Trod enc Try.prog W 0 (fun _ => true) true 45 v d ps) :
    ∃ xs, SlE W 1 v xs StrE := by
  obtain ⟨a, n, c, rfl⟩ := okWide_slice Try.underlying45 ok
  exact slE_of (P := Try.prog) rfl ⟨_, _, _, rfl⟩ Try.underlying45 (by kernel_rfl) (by decide) (fun cs hc => by obtain ⟨n, h1, h2⟩ := hc.string Try.underlying9; exact ⟨n, h1, h2⟩) (rd_of_trod h)
set_option maxRecDepth 100000 in
theorem keeps_row {H : Type} {enc : TypeId × Value → H} {base : Nat} (W : World) {v1 : Value} {d1 : DataW H} {p1 : List MemPlace} (ok : Value.okWide Try.prog W .any base 45 v1) (h : DataW.Trod enc Try.prog W 0 (fun _ => true) true 45 v1 d1 p1) (a1 : Int) (_ : (Lit.int .i64 a1).wf = true) (a2 : Int) (_ : (Lit.int .i64 a2).wf = true) :
    Calls Try.prog 5 #[v1, .int .i64 a1, .int .i64 a2] W fun e w' => e = .returned (.bool true) ∧ Below W.heap.size W w' := by
  obtain ⟨xs, hx⟩ := strs_in ok h
  obtain ⟨a, c, rfl⟩ := hx.sh
  exact keeps_walk a1 a2 a _ c W xs hx
end Go.Proofs.Ytheejjifcpjdbaa

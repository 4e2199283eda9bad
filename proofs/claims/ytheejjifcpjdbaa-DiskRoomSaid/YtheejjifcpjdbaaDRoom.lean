/- tattlelaw20.DiskRoom answers true, for every input. -/
import Derived.Test.YtheejjifcpjdbaaAwake20
import Derived.Test.YtheejjifcpjdbaaView
import Derived.Deep.LoopGhost
namespace Go.Proofs.Ytheejjifcpjdbaa
open Go.RowKit Go.Lib Go.Tt
/-- A slice of ints that came in. -/
def IntE (n : Int) (cs : List Value) : Prop := cs = [.int .i64 n] ∧ (Lit.int .i64 n).wf = true
set_option maxHeartbeats 2000000 in
set_option maxRecDepth 100000 in
theorem room_walk (size cut : Int) (pa : Option Addr) (pn pc : Nat) (w : World) (parts : List Int) (hp : SlE w 1 (.slice pa pn pc) parts IntE) : Calls Try.prog 7 #[.int .i64 size, .slice pa pn pc, .int .i64 cut] w fun e w' => e = .returned (.bool true) ∧ Below w.heap.size w w' := by
  obtain ⟨c, hc, c1⟩ := mask_nat 1023 size _ (and_1023 size)
  go_enter Try.func7, Try.ntmps7
  go_wp2_with (fail)
  refine (awake20 _).mono ?_
  rintro e w0 ⟨rfl, f0⟩
  have b0 := f0.size
  go_wp2_with (fail)
  refine (new_ok _ _ (by omega) (by omega)).mono ?_
  rintro e w1 ⟨rfl, K1, f1, z1⟩
  replace K1 : DiskIs w1 (G w.heap.size none) w0.heap.size ⟨64 + c, false, [], []⟩ := K1.mono fun k hk h => ⟨by omega, nofun⟩
  have b1 : w.heap.size ≤ w1.heap.size := by omega
  go_wp2_with (go_at_call 23; refine (num_any _ _).mono ?_; rintro e w' ⟨rfl, rfl⟩)
  have bel1 : Below w.heap.size w w1 := f0.trans (f1.below (fun _ _ h => h) b0)
  obtain ⟨rfl, hn1, hn2, hnil, hat⟩ := hp.facts
  clear hc f0 f1 b0 hp
  go_loopg [10, 11, 12] (parts.length + 1) (fun g ka wa iv wr => ∃ (i : Nat) (D : DiskD), iv = .int .i64 i ∧ ka = .int .i64 D.kept.length ∧ wa = .int .i64 D.waits.length ∧ i ≤ parts.length ∧ g = parts.length - i + 1 ∧
    D.size = 64 + c ∧ D.down = false ∧ DiskIs wr (G w.heap.size none) w0.heap.size D ∧ Below w.heap.size w wr ∧ w.heap.size ≤ wr.heap.size)
  case atStart => exact ⟨0, ⟨64 + c, false, [], []⟩, rfl, rfl, rfl, Nat.zero_le _, by omega, rfl, rfl, K1, bel1, b1⟩
  case round =>
    clear K1
    obtain ⟨i, D, rfl, rfl, rfl, hi, hg, hD, hdn, K, bel, hsz⟩ := hrel
    by_cases hlt : i < parts.length
    · obtain ⟨pb, off, cs, rfl, ⟨rfl, hwf⟩, -, hcell⟩ := hat i hlt
      have hc : wr.cell? ⟨pb, off + i, none⟩ = some (.int .i64 parts[i]) := by
        have := hcell 0 (by omega)
        rw [Nat.mul_one, Nat.add_zero] at this
        rw [bel.cell (World.block_lt_of_cell? _ _ this)]
        exact this
      generalize parts[i] = p at hc hwf
      obtain ⟨m, hm, m1⟩ := mask_nat 63 p _ (and_63 p)
      have hG := Lib.hid hg
      have hDh := Lib.hid hD
      have hdh := Lib.hid hdn
      have hpb : pb < w.heap.size := by have := hcell 0 (by omega); exact World.block_lt_of_cell? _ _ this
      have hpb : pb < w.heap.size := by have := hcell 0 (by omega); exact World.block_lt_of_cell? _ _ this
      have hpb : pb < w.heap.size := by have := hcell 0 (by omega); exact World.block_lt_of_cell? _ _ this
      have hpb : pb < w.heap.size := by have := hcell 0 (by omega); exact World.block_lt_of_cell? _ _ this
      clear hcell hat hg hnil hD hdn
      by_cases h30 : i < 30
      · go_wp2_with (at_make; refine wpList_mk1 _ rfl _ _ 47 rfl 5 (.int .u8 0) 1 Try.underlying47 Try.info_u8 rfl _ _ _ _ m rfl rfl (by omega) (by omega) (by omega) (by unfold maxLen; omega) ?_)
        intro w2 o2 g2
        have c2 := conv_zeros o2
        have K2 := G_frm K (grown_no g2)
        have b2 := Nat.le_trans hsz (grown_no g2).size
        obtain ⟨Z, hZ, hz⟩ : ∃ Z : List UInt8, Z = List.replicate m 0 ∧ Z.length = m := ⟨_, rfl, List.length_replicate⟩
        rw [← hZ] at c2
        clear hZ o2
        have hs := txt_size Z
        have t1 : (txt Z).data.toList = Z := by simp [txt]
        have b64 := K2.bounds
        have hpb : pb < w.heap.size := hpb
        by_cases hf : (D.kept.length : Int) + D.waits.length + m ≤ 64 + c
        · go_wp2_with (fail)
          refine (append_g K2 b2 G_none _ (E := 0) (D := { D with waits := D.waits ++ Z }) (by simp [DiskD.apE, hdh.out, hDh.out, hs, hz]; omega) (by simp [DiskD.apD, hdh.out, hDh.out, hs, hz, t1]; omega)).mono ?_
          rintro e w3 ⟨rfl, K3, f3⟩
          have b3 := Nat.le_trans b2 f3.size
          have F3 : Below w.heap.size w w3 := bel.trans ((grown_frm0 w.heap.size none g2).trans f3 |>.below (fun k hk h => by have := h.1; omega) hsz)
          have hc3 : w3.cell? ⟨pb, off + i, none⟩ = some (.int .i64 p) := (F3.cell hpb).trans ((bel.cell hpb).symm.trans hc)
          clear c2 hc
          go_wp2_with (go_at_call 23; refine (num_any _ _).mono ?_; rintro e w' ⟨rfl, rfl⟩)
          · refine (sync_g K3 b3 G_none (E := 0) (D := ⟨64 + c, false, D.kept ++ ({ D with waits := D.waits ++ Z }).waits, []⟩) (by simp [DiskD.syE, hdh.out]) (by simp [DiskD.syD, hdh.out, hDh.out])).mono ?_
            rintro e w4 ⟨rfl, K4, f4⟩
            have b4 := Nat.le_trans b3 f4.size
            have F4 : Below w.heap.size w w4 := F3.trans (f4.below (fun k hk h => by have := h.1; omega) b3)
            go_wp2_with (first | (go_at_call 23; refine (num_any _ _).mono ?_; rintro e w' ⟨rfl, rfl⟩) | (go_at_call 37; refine (room_g K4 (R := 64 + c - D.kept.length - (D.waits.length + m)) (by simp [DiskD.room, hz]; try omega)).mono ?_; rintro e w' ⟨rfl, n, rfl⟩))
            go_roundg (parts.length - (i + 1) + 1)
            case measure => have := hG.out; omega
            case rel => exact ⟨i + 1, ⟨64 + c, false, D.kept ++ ({ D with waits := D.waits ++ Z }).waits, []⟩, by go_num, by simp [hz]; try omega, by simp, by omega, rfl, rfl, rfl, K4.drewN n, below_drewN F4 n, b4⟩
          · refine (room_g K3 (R := 64 + c - D.kept.length - (D.waits.length + m)) (by simp [DiskD.room, hz, hdh.out, hDh.out]; try omega)).mono ?_
            rintro e w' ⟨rfl, n, rfl⟩
            go_wp2
            go_roundg (parts.length - (i + 1) + 1)
            case measure => have := hG.out; omega
            case rel => exact ⟨i + 1, { D with waits := D.waits ++ Z }, by go_num, by simp, by simp [hz]; try omega, by omega, rfl, hDh.out, hdh.out, K3.drewN n, below_drewN F3 n, b3⟩
        · go_wp2_with (fail)
          refine (append_g K2 b2 G_none _ (E := 2001) (D := D) (by simp [DiskD.apE, hdh.out, hDh.out, hs, hz]; omega) (by simp [DiskD.apD, hdh.out, hDh.out, hs, hz, t1]; omega)).mono ?_
          rintro e w3 ⟨rfl, K3, f3⟩
          have b3 := Nat.le_trans b2 f3.size
          have F3 : Below w.heap.size w w3 := bel.trans ((grown_frm0 w.heap.size none g2).trans f3 |>.below (fun k hk h => by have := h.1; omega) hsz)
          have hc3 : w3.cell? ⟨pb, off + i, none⟩ = some (.int .i64 p) := (F3.cell hpb).trans ((bel.cell hpb).symm.trans hc)
          clear c2 hc
          go_wp2_with (go_at_call 23; refine (num_any _ _).mono ?_; rintro e w' ⟨rfl, rfl⟩)
          · refine (sync_g K3 b3 G_none (E := 0) (D := ⟨64 + c, false, D.kept ++ (D).waits, []⟩) (by simp [DiskD.syE, hdh.out]) (by simp [DiskD.syD, hdh.out, hDh.out])).mono ?_
            rintro e w4 ⟨rfl, K4, f4⟩
            have b4 := Nat.le_trans b3 f4.size
            have F4 : Below w.heap.size w w4 := F3.trans (f4.below (fun k hk h => by have := h.1; omega) b3)
            go_wp2_with (first | (go_at_call 23; refine (num_any _ _).mono ?_; rintro e w' ⟨rfl, rfl⟩) | (go_at_call 37; refine (room_g K4 (R := 64 + c - D.kept.length - D.waits.length) (by simp [DiskD.room, hz]; try omega)).mono ?_; rintro e w' ⟨rfl, n, rfl⟩))
            go_roundg (parts.length - (i + 1) + 1)
            case measure => have := hG.out; omega
            case rel => exact ⟨i + 1, ⟨64 + c, false, D.kept ++ (D).waits, []⟩, by go_num, by simp [hz]; try omega, by simp, by omega, rfl, rfl, rfl, K4.drewN n, below_drewN F4 n, b4⟩
          · refine (room_g K3 (R := 64 + c - D.kept.length - D.waits.length) (by simp [DiskD.room, hz, hdh.out, hDh.out]; try omega)).mono ?_
            rintro e w' ⟨rfl, n, rfl⟩
            go_wp2
            go_roundg (parts.length - (i + 1) + 1)
            case measure => have := hG.out; omega
            case rel => exact ⟨i + 1, D, by go_num, by simp, by simp [hz]; try omega, by omega, rfl, hDh.out, hdh.out, K3.drewN n, below_drewN F3 n, b3⟩
      · have hn30 : ¬ ((i : Int) < 30) := by omega
        have b64 := K.bounds
        obtain ⟨q, hq, hq1⟩ : ∃ q : Nat, (IntKind.u64.wrap cut).tmod (D.kept.length + 1) = (q : Int) ∧ q ≤ D.kept.length := by
          have h0 : 0 ≤ IntKind.u64.wrap cut := by rw [IntKind.wrap_u64]; omega
          rw [Int.tmod_eq_emod_of_nonneg h0]
          have h1 := Int.emod_nonneg (IntKind.u64.wrap cut) (b := (D.kept.length : Int) + 1) (by omega)
          have h2 := Int.emod_lt_of_pos (IntKind.u64.wrap cut) (b := (D.kept.length : Int) + 1) (by omega)
          exact ⟨((IntKind.u64.wrap cut) % ((D.kept.length : Int) + 1)).toNat, by omega, by omega⟩
        go_wp2_with (fail)
        refine (crash_g K hsz G_none 0 (E := 0) (D := ⟨64 + c, true, D.kept, []⟩) (by simp [DiskD.crE, hdh.out]) (by simp [DiskD.crD, hdh.out, hDh.out])).mono ?_
        rintro e w3 ⟨rfl, K3, f3⟩
        go_wp2_with (fail)
        refine (restart_g K3 (E := 0) (D := ⟨64 + c, false, D.kept, []⟩) rfl rfl).mono ?_
        rintro e w4 ⟨rfl, K4, f4⟩
        go_wp2_with (fail)
        refine (cut_g K4 q (E := 0) (D := ⟨64 + c, false, D.kept.take q, []⟩) (by simp [DiskD.cuE]; omega) (by simp [DiskD.cuD]; omega)).mono ?_
        rintro e w5 ⟨rfl, K5, f5⟩
        have F5 : Below w.heap.size w w5 := bel.trans ((f3.trans (f4.trans f5)).below (fun k hk h => by have := h.1; omega) hsz)
        have hl : (D.kept.take q).length = q := by rw [List.length_take]; omega
        have hs := txt_size (D.kept.take q)
        rw [hl] at hs
        go_wp2_with (first | (go_at_call 23; refine (num_any _ _).mono ?_; rintro e w' ⟨rfl, rfl⟩) | (go_at_call 35; refine (bytes_g K5 (E := 0) (S := txt (D.kept.take q)) rfl rfl).mono ?_; rintro e w' ⟨rfl, rfl⟩) | (go_at_call 37; refine (room_g K5 (R := 64 + c - q) (by simp only [DiskD.room, hl]; simp)).mono ?_; rintro e w' ⟨rfl, n, rfl⟩))
        go_ret
        exact ⟨rfl, below_drewN F5 _⟩
    · have hnl : ¬ ((i : Int) < parts.length) := by omega
      have hdh := Lib.hid hdn
      have hDh := Lib.hid hD
      clear hdn hD hg hat hnil
      have b64 := K.bounds
      obtain ⟨q, hq, hq1⟩ : ∃ q : Nat, (IntKind.u64.wrap cut).tmod (D.kept.length + 1) = (q : Int) ∧ q ≤ D.kept.length := by
        have h0 : 0 ≤ IntKind.u64.wrap cut := by rw [IntKind.wrap_u64]; omega
        rw [Int.tmod_eq_emod_of_nonneg h0]
        have h1 := Int.emod_nonneg (IntKind.u64.wrap cut) (b := (D.kept.length : Int) + 1) (by omega)
        have h2 := Int.emod_lt_of_pos (IntKind.u64.wrap cut) (b := (D.kept.length : Int) + 1) (by omega)
        exact ⟨((IntKind.u64.wrap cut) % ((D.kept.length : Int) + 1)).toNat, by omega, by omega⟩
      go_wp2_with (fail)
      refine (crash_g K hsz G_none 0 (E := 0) (D := ⟨64 + c, true, D.kept, []⟩) (by simp [DiskD.crE, hdh.out]) (by simp [DiskD.crD, hdh.out, hDh.out])).mono ?_
      rintro e w3 ⟨rfl, K3, f3⟩
      go_wp2_with (fail)
      refine (restart_g K3 (E := 0) (D := ⟨64 + c, false, D.kept, []⟩) rfl rfl).mono ?_
      rintro e w4 ⟨rfl, K4, f4⟩
      go_wp2_with (fail)
      refine (cut_g K4 q (E := 0) (D := ⟨64 + c, false, D.kept.take q, []⟩) (by simp [DiskD.cuE]; omega) (by simp [DiskD.cuD]; omega)).mono ?_
      rintro e w5 ⟨rfl, K5, f5⟩
      have F5 : Below w.heap.size w w5 := bel.trans ((f3.trans (f4.trans f5)).below (fun k hk h => by have := h.1; omega) hsz)
      have hl : (D.kept.take q).length = q := by rw [List.length_take]; omega
      have hs := txt_size (D.kept.take q)
      rw [hl] at hs
      go_wp2_with (first | (go_at_call 23; refine (num_any _ _).mono ?_; rintro e w' ⟨rfl, rfl⟩) | (go_at_call 35; refine (bytes_g K5 (E := 0) (S := txt (D.kept.take q)) rfl rfl).mono ?_; rintro e w' ⟨rfl, rfl⟩) | (go_at_call 37; refine (room_g K5 (R := 64 + c - q) (by simp only [DiskD.room, hl]; simp)).mono ?_; rintro e w' ⟨rfl, n, rfl⟩))
      go_ret
      exact ⟨rfl, below_drewN F5 _⟩
set_option maxRecDepth 100000 in
open Go.WideShapes Go.ChangeAt in
/-- A slice of ints, opened. -/
theorem ints_in {H : Type} {enc : TypeId × Value → H} {W : World} {base : Nat} {v : Value} {d : DataW H} {ps : List MemPlace} (ok : Value.okWide Try.prog W .any base 49 v) (h : DataW.Trod enc Try.prog W 0 (fun _ => true) true 49 v d ps) :
    ∃ xs, SlE W 1 v xs IntE := by
  obtain ⟨a, n, c, rfl⟩ := okWide_slice Try.underlying49 ok
  exact slE_of (P := Try.prog) rfl ⟨_, _, _, rfl⟩ Try.underlying49 (by kernel_rfl) (by decide) (fun cs hc => by obtain ⟨n, h1, h2⟩ := hc.int Try.underlying3; exact ⟨n, h1, h2⟩) (rd_of_trod h)
set_option maxRecDepth 100000 in
theorem room_row {H : Type} {enc : TypeId × Value → H} {base : Nat} (W : World) (a0 : Int) (_ : (Lit.int .i64 a0).wf = true) {v1 : Value} {d1 : DataW H} {p1 : List MemPlace} (ok : Value.okWide Try.prog W .any base 49 v1) (h : DataW.Trod enc Try.prog W 0 (fun _ => true) true 49 v1 d1 p1) (a2 : Int) (_ : (Lit.int .i64 a2).wf = true) :
    Calls Try.prog 7 #[.int .i64 a0, v1, .int .i64 a2] W fun e w' => e = .returned (.bool true) ∧ Below W.heap.size W w' := by
  obtain ⟨xs, hx⟩ := ints_in ok h
  obtain ⟨a, c, rfl⟩ := hx.sh
  exact room_walk a0 a2 a _ c W xs hx
end Go.Proofs.Ytheejjifcpjdbaa

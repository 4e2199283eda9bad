/- Merged: Row Open9 ConBg ConM ConSe0. -/
import Derived.WalkKit
import Derived.ProofKit
import Derived.OpenShut
import Derived.ShutString
import Derived.ChangeOld
import Derived.Below
import Derived.SizedLaws
import Derived.Carry
import Derived.Test.YtgpdpalhkkjmiaaGreatDoorV01
import Derived.Test.YtgpdpalhkkjmiaaGreatDoorV02
import Derived.Test.YtgpdpalhkkjmiaaGreatDoorV05
import Derived.Test.YtgpdpalhkkjmiaaGreatDoorV36
/- What every row of this seat uses: arguments that were read read as they did where nothing below has turned. -/
namespace Go.Tt
set_option linter.unusedVariables false
set_option linter.unusedSimpArgs false
set_option linter.unusedVariables false
set_option linter.unusedSimpArgs false
open Go.ChangeShapes Go.WideShapes Go.ChangeAt Go.RowKit

/-- All arguments read as they did. -/
theorem below_trodAll {H : Type} {enc : TypeId × Value → H} {P : Program} (hl : laidOutB P = true) {W W' : World} (hb : Below W.heap.size W W') :
    ∀ {ts : List TypeId} {vs : List Value} {ds : List (DataW H)} {ps : List MemPlace}, ts.all (fun t => P.readableRec t && decide (t < P.types.size)) = true →
      DataW.TrodAll enc P W 0 (fun _ => true) true ts vs ds ps → (∀ x ∈ ps, x.block < W.heap.size) →
      DataW.TrodAll enc P W' 0 (fun b => decide (b < W.heap.size)) true ts vs ds ps := by
  intro ts
  induction ts with
  | nil =>
    intro vs ds ps _ h _
    obtain ⟨rfl, rfl, rfl⟩ := trodAll_nil h
    exact trodAll_mk0
  | cons t ts ih =>
    intro vs ds ps hr h hlt
    obtain ⟨v0, vs0, d0, ds0, p0, q0, rfl, rfl, rfl, h0, r0⟩ := trodAll_cons h
    rw [List.all_cons, Bool.and_eq_true, Bool.and_eq_true] at hr
    exact trodAll_cons_mk (Below.trod hl hr.1.1 (of_decide_eq_true hr.1.2) h0 hb fun x hx => hlt x (List.mem_append_left _ hx)) (ih hr.2 r0 fun x hx => hlt x (List.mem_append_right _ hx))
theorem trodAll_lt {H : Type} {enc : TypeId × Value → H} {P : Program} {W : World} : ∀ {ts : List TypeId} {vs : List Value} {ds : List (DataW H)} {ps : List MemPlace},
      DataW.TrodAll enc P W 0 (fun _ => true) true ts vs ds ps → ∀ x ∈ ps, x.block < W.heap.size := by
  intro ts
  induction ts with
  | nil =>
    intro vs ds ps h
    obtain ⟨rfl, rfl, rfl⟩ := trodAll_nil h
    intro x hx; cases hx
  | cons t ts ih =>
    intro vs ds ps h x hx
    obtain ⟨v0, vs0, d0, ds0, p0, q0, rfl, rfl, rfl, h0, r0⟩ := trodAll_cons h
    rcases List.mem_append.1 hx with hx | hx
    · obtain ⟨m, hm⟩ := h0; exact DataW.trod_lt m _ _ _ hm x hx
    · exact ih r0 x hx
end Go.Tt

/- Arguments of the sets' laws, opened. -/
namespace Go.Proofs.YtgpdpalhkkjmiaaGreatDoor
set_option linter.unusedVariables false
set_option linter.unusedSimpArgs false
open Go.RowKit Go.Lib Go.Tt Go.WideShapes
set_option maxRecDepth 10000
/-- Texts that came in, with their bound. -/
def eStrR : Enc {s : ByteArray // s.size ≤ reachBytes} := ⟨1, fun s => [.string s.1], fun _ => rfl, fun x u hu => by simp at hu; subst hu; rfl, by decide⟩
theorem strsR {w : World} {v : Value} {l : List {s : ByteArray // s.size ≤ reachBytes}} (h : RdS w eStrR v l) : RdS w eStr v (l.map (·.1)) := by
  obtain ⟨a, c, rfl, h1, h2, h3, h4⟩ := h
  have hf : eStr.flat (l.map (·.1)) = eStrR.flat l := by
    induction l with
    | nil => rfl
    | cons x l ih => exact congrArg (Value.string x.1 :: ·) (by
        clear h1 h3 h4 ih
        induction l with
        | nil => rfl
        | cons y l ih => exact congrArg (Value.string y.1 :: ·) ih)
  exact ⟨a, c, by rw [List.length_map], by rw [List.length_map]; exact h1, h2, by rw [List.length_map]; exact h3, by rw [List.length_map, hf]; exact h4⟩
theorem strs_of {base : Nat} {w : World} {v : Value} (ok : Value.okWide Tryz.prog w .any base 28 v) (h : Rd Tryz.prog w 28 v.cells.toList) : ∃ l, RdS w eStr v l ∧ ∀ x ∈ l, x.size ≤ reachBytes := by
  obtain ⟨a, n, c, rfl⟩ := okWide_slice Tryz.underlying28 ok
  obtain ⟨l, hl, -⟩ := rdS_of (E := eStrR) rfl ⟨a, n, c, rfl⟩ Tryz.underlying28 (by kernel_rfl) (fun cs hR => by
    obtain ⟨s, rfl, hs⟩ := hR.string Tryz.underlying9
    exact ⟨⟨s, hs⟩, rfl⟩) h
  exact ⟨_, strsR hl, fun x hx => by obtain ⟨y, -, rfl⟩ := List.mem_map.1 hx; exact y.2⟩
end Go.Proofs.YtgpdpalhkkjmiaaGreatDoor

/- The console's laws: ConsoleBegins, ConsoleMany (printed by gen_conmany.py). -/
namespace Go.Proofs.YtgpdpalhkkjmiaaGreatDoor
set_option linter.unusedVariables false
set_option linter.unusedSimpArgs false
open Go.RowKit Go.Lib Go.Tt Go.Shelf Go.WideShapes
theorem begins_tell (a b : ByteArray) : (a ++ (⟨#[10]⟩ : ByteArray) ++ b).data.toList = a.data.toList ++ 10 :: b.data.toList ∧ (a ++ (⟨#[10]⟩ : ByteArray)).data.toList = a.data.toList ++ [10] := by
  constructor <;> simp [ByteArray.data_append]
theorem ext_pre {S T : ByteArray} {U : List UInt8} (h : T.data.toList = S.data.toList ++ U) : S.size ≤ T.size ∧ T.extract 0 S.size = S := by
  have hs : T.size = S.size + U.length := by rw [size_eq, size_eq, h, List.length_append]
  refine ⟨by omega, ?_⟩
  apply data_inj
  rw [extract_data, h]
  simp only [Nat.sub_zero, List.drop_zero]
  exact List.take_left' (size_eq S).symm
set_option maxHeartbeats 4000000 in
set_option maxRecDepth 100000 in
theorem consoleBegins_ok {w : World} (ht : Tab w) (a b : ByteArray) (ha : a.size ≤ 140737488355328) (hb : b.size ≤ 140737488355328) : Calls Tryz.prog 4 #[.string a, .string b] w fun e w' => e = .returned (.bool true) ∧ Frm No w w' := by
  have H0 := conAwake_ok ht
  have HT := Lib.hid ht
  obtain ⟨x, hx⟩ : ∃ x, x = a ++ (⟨#[10]⟩ : ByteArray) := ⟨_, rfl⟩
  have hxs : x.size = a.size + 1 := by rw [hx, ByteArray.size_append]; rfl
  have hys : (x ++ b).size = x.size + b.size := ByteArray.size_append
  have hbt := begins_tell a b
  rw [← hx] at hbt
  have hxle : x.size ≤ 140737488355329 := by omega
  have HX : Hid (a ++ (⟨#[10]⟩ : ByteArray) = x) := Lib.hid hx.symm
  by_cases hl : 65536 < (x ++ b).size
  · have HL2 := Lib.hid (fun W => run_long (x ++ b) hl W)
    have hgt : ((x.size : Int) + (b.size : Int) > 65536) := by omega
    have hgt2 : 65536 < x.size + b.size := by omega
    have HA : Hid (∃ S E, ∀ W, Frm No w W → Calls Tryz.prog 9 #[.string x] W fun e w' => e = .returned (.tuple #[.string S, .int .i64 E]) ∧ Frm No W w') := Lib.hid (by
      by_cases h : 65536 < x.size
      · exact ⟨_, _, fun W _ => run_long x h W⟩
      · exact ⟨_, _, fun W f => run_ok (HT.out.frm f) x (by omega)⟩)
    obtain ⟨S, E, hA⟩ := HA.out
    have HA := Lib.hid hA
    have HYS := Lib.hid hys
    clear hx hxs hys hbt hA ht hl
    go_enter Tryz.func4, Tryz.ntmps4
    go_wp2_with (fail)
    refine H0.mono ?_
    rintro e w0 ⟨rfl, f0⟩
    clear H0
    go_wp2_with (fail)
    rw [HX.out]
    refine (HA.out _ f0).mono ?_
    rintro e w1 ⟨rfl, f1⟩
    go_wp2_with (fail)
    refine (HL2.out _).mono ?_
    rintro e w2 ⟨rfl, f2⟩
    go_wp2_with (fail)
    refine (num_ok 2501 _).mono ?_
    rintro e w3 ⟨rfl, rfl⟩
    have hyg : 65536 < (x ++ b).size := by rw [HYS.out]; exact hgt2
    go_wp2_with (fail)
    refine (num_ok 2501 _).mono ?_
    rintro e w3 ⟨rfl, rfl⟩
    go_wp2_with (fail)
    go_ret
    exact ⟨rfl, (f0.trans f1).trans f2⟩
  · have hx6 : x.size ≤ 65536 := by omega
    have H1 := Lib.hid (fun W (f : Frm No w W) => run_ok (HT.out.frm f) x hx6)
    have H2 := Lib.hid (fun W (f : Frm No w W) => run_ok (HT.out.frm f) (x ++ b) (by omega))
    obtain ⟨S, hS⟩ : ∃ S : ByteArray, S = ⟨(runL x.data.toList).toArray⟩ := ⟨_, rfl⟩
    obtain ⟨T, hT⟩ : ∃ T : ByteArray, T = ⟨(runL (x ++ b).data.toList).toArray⟩ := ⟨_, rfl⟩
    rw [← hS] at H1
    rw [← hT] at H2
    have hST : T.data.toList = S.data.toList ++ runL b.data.toList := by
      rw [hS, hT, hbt.1, hbt.2, runL_app, runL_end]
    obtain ⟨hle, hex⟩ := ext_pre hST
    have HS := Lib.hid hS
    have HTT := Lib.hid hT
    have hTm : T.size ≤ 4611686018427387904 := by
      have h1 := tellF_len (ls := linesB (x ++ b).data.toList) fun y hy => by
        obtain ⟨j, hj, rfl⟩ := List.getElem_of_mem hy
        have h2 := wsz_at hj
        have h3 := lines_sz (x ++ b).data.toList
        rw [← size_eq] at h3
        omega
      rw [tellF_lines] at h1
      have h2 := wsz_len (linesB (x ++ b).data.toList)
      rw [lines_sz, ← size_eq] at h2
      have h3 : T.size = (runL (x ++ b).data.toList).length := by rw [hT, size_eq]
      have h4 : (linesB (x ++ b).data.toList).length * 16900001 ≤ 65537 * 16900001 := Nat.mul_le_mul_right _ (by omega)
      omega
    clear hx hxs hbt hS hT hST ht hys hl
    go_enter Tryz.func4, Tryz.ntmps4
    go_wp2_with (fail)
    refine H0.mono ?_
    rintro e w0 ⟨rfl, f0⟩
    clear H0
    go_wp2_with (fail)
    rw [HX.out]
    refine (H1.out _ f0).mono ?_
    rintro e w1 ⟨rfl, f1⟩
    go_wp2_with (fail)
    refine (H2.out _ (f0.trans f1)).mono ?_
    rintro e w2 ⟨rfl, f2⟩
    go_wp2_with (fail)
    refine (num_ok 0 _).mono ?_
    rintro e w3 ⟨rfl, rfl⟩
    go_wp2_with (fail)
    refine (num_ok 0 _).mono ?_
    rintro e w3 ⟨rfl, rfl⟩
    go_wp2_with (fail)
    go_ret
    exact ⟨rfl, (f0.trans f1).trans f2⟩
set_option maxRecDepth 100000 in
theorem consoleBegins_row {base : Nat} (w : World) (ht : Tab w) {v0 v1 : Value} (ok0 : Value.okWide Tryz.prog w .any base 9 v0) (h0 : Rd Tryz.prog w 9 v0.cells.toList) (ok1 : Value.okWide Tryz.prog w .any base 9 v1) (h1 : Rd Tryz.prog w 9 v1.cells.toList) : Calls Tryz.prog 4 #[v0, v1] w fun e w' => e = .returned (.bool true) ∧ Below w.heap.size w w' := by
  obtain ⟨a, rfl⟩ := okWide_string Tryz.underlying9 ok0
  obtain ⟨b, rfl⟩ := okWide_string Tryz.underlying9 ok1
  obtain ⟨a', ha, hab⟩ := h0.string Tryz.underlying9
  obtain ⟨b', hb, hbb⟩ := h1.string Tryz.underlying9
  have ea : a = a' := by simpa [Value.cells] using ha
  have eb : b = b' := by simpa [Value.cells] using hb
  subst ea eb
  unfold reachBytes at hab hbb
  exact (consoleBegins_ok ht a b (by omega) (by omega)).mono fun e w' ⟨he, f⟩ => ⟨he, f.below (fun _ _ h => h) (Nat.le_refl _)⟩
end Go.Proofs.YtgpdpalhkkjmiaaGreatDoor

/- The console's laws: ConsoleMany (printed by gen_conm.py). -/
namespace Go.Proofs.YtgpdpalhkkjmiaaGreatDoor
set_option linter.unusedVariables false
set_option linter.unusedSimpArgs false
open Go.RowKit Go.Lib Go.Tt Go.Shelf Go.WideShapes
/-- The lines of the law. -/
def manyA : List ByteArray := [⟨#[112, 97, 105, 114]⟩, ⟨#[112, 97, 105, 114, 32, 53, 32, 45, 53]⟩, ⟨#[112, 97, 105, 114, 32, 57, 57, 57, 57, 57, 57, 32, 49, 32, 49, 32, 49]⟩, ⟨#[112, 97, 105, 114, 32, 49, 32, 120]⟩, ⟨#[112, 97, 105, 114, 32, 49, 50, 51, 52, 53, 54, 55, 32, 48]⟩, ⟨#[115, 117, 109]⟩, ⟨#[115, 117, 109, 32, 97, 32, 98]⟩, ⟨#[115, 101, 116]⟩, ⟨#[115, 101, 116, 32, 120, 32, 121, 32, 120, 32, 45, 120]⟩, ⟨#[115, 101, 116, 32, 45, 113]⟩, ⟨#[108, 105, 115, 116, 32, 97, 32, 45]⟩, ⟨#[108, 105, 115, 116, 32, 45, 32, 45, 32, 97]⟩, ⟨#[35, 32, 99]⟩, ⟨#[80, 65, 73, 82]⟩]
theorem manyA_b : ∀ (k : Nat) (h : k < 14), manyA[k].size ≤ 20 ∧ (runL manyA[k].data.toList).length ≤ 100
  | 0, _ => ⟨by show (⟨#[112, 97, 105, 114]⟩ : ByteArray).size ≤ 20; decide, Nat.le_of_ble_eq_true (show Nat.ble (runL [112, 97, 105, 114]).length 100 = true by kernel_rfl)⟩
  | 1, _ => ⟨by show (⟨#[112, 97, 105, 114, 32, 53, 32, 45, 53]⟩ : ByteArray).size ≤ 20; decide, Nat.le_of_ble_eq_true (show Nat.ble (runL [112, 97, 105, 114, 32, 53, 32, 45, 53]).length 100 = true by kernel_rfl)⟩
  | 2, _ => ⟨by show (⟨#[112, 97, 105, 114, 32, 57, 57, 57, 57, 57, 57, 32, 49, 32, 49, 32, 49]⟩ : ByteArray).size ≤ 20; decide, Nat.le_of_ble_eq_true (show Nat.ble (runL [112, 97, 105, 114, 32, 57, 57, 57, 57, 57, 57, 32, 49, 32, 49, 32, 49]).length 100 = true by kernel_rfl)⟩
  | 3, _ => ⟨by show (⟨#[112, 97, 105, 114, 32, 49, 32, 120]⟩ : ByteArray).size ≤ 20; decide, Nat.le_of_ble_eq_true (show Nat.ble (runL [112, 97, 105, 114, 32, 49, 32, 120]).length 100 = true by kernel_rfl)⟩
  | 4, _ => ⟨by show (⟨#[112, 97, 105, 114, 32, 49, 50, 51, 52, 53, 54, 55, 32, 48]⟩ : ByteArray).size ≤ 20; decide, Nat.le_of_ble_eq_true (show Nat.ble (runL [112, 97, 105, 114, 32, 49, 50, 51, 52, 53, 54, 55, 32, 48]).length 100 = true by kernel_rfl)⟩
  | 5, _ => ⟨by show (⟨#[115, 117, 109]⟩ : ByteArray).size ≤ 20; decide, Nat.le_of_ble_eq_true (show Nat.ble (runL [115, 117, 109]).length 100 = true by kernel_rfl)⟩
  | 6, _ => ⟨by show (⟨#[115, 117, 109, 32, 97, 32, 98]⟩ : ByteArray).size ≤ 20; decide, Nat.le_of_ble_eq_true (show Nat.ble (runL [115, 117, 109, 32, 97, 32, 98]).length 100 = true by kernel_rfl)⟩
  | 7, _ => ⟨by show (⟨#[115, 101, 116]⟩ : ByteArray).size ≤ 20; decide, Nat.le_of_ble_eq_true (show Nat.ble (runL [115, 101, 116]).length 100 = true by kernel_rfl)⟩
  | 8, _ => ⟨by show (⟨#[115, 101, 116, 32, 120, 32, 121, 32, 120, 32, 45, 120]⟩ : ByteArray).size ≤ 20; decide, Nat.le_of_ble_eq_true (show Nat.ble (runL [115, 101, 116, 32, 120, 32, 121, 32, 120, 32, 45, 120]).length 100 = true by kernel_rfl)⟩
  | 9, _ => ⟨by show (⟨#[115, 101, 116, 32, 45, 113]⟩ : ByteArray).size ≤ 20; decide, Nat.le_of_ble_eq_true (show Nat.ble (runL [115, 101, 116, 32, 45, 113]).length 100 = true by kernel_rfl)⟩
  | 10, _ => ⟨by show (⟨#[108, 105, 115, 116, 32, 97, 32, 45]⟩ : ByteArray).size ≤ 20; decide, Nat.le_of_ble_eq_true (show Nat.ble (runL [108, 105, 115, 116, 32, 97, 32, 45]).length 100 = true by kernel_rfl)⟩
  | 11, _ => ⟨by show (⟨#[108, 105, 115, 116, 32, 45, 32, 45, 32, 97]⟩ : ByteArray).size ≤ 20; decide, Nat.le_of_ble_eq_true (show Nat.ble (runL [108, 105, 115, 116, 32, 45, 32, 45, 32, 97]).length 100 = true by kernel_rfl)⟩
  | 12, _ => ⟨by show (⟨#[35, 32, 99]⟩ : ByteArray).size ≤ 20; decide, Nat.le_of_ble_eq_true (show Nat.ble (runL [35, 32, 99]).length 100 = true by kernel_rfl)⟩
  | 13, _ => ⟨by show (⟨#[80, 65, 73, 82]⟩ : ByteArray).size ≤ 20; decide, Nat.le_of_ble_eq_true (show Nat.ble (runL [80, 65, 73, 82]).length 100 = true by kernel_rfl)⟩
  | k + 14, h => by omega
/-- Lines so far: the script S, what they tell W. -/
def ManyW (i : Nat) (S W : ByteArray) : Prop := ∃ xs : List (List UInt8), xs.length = i ∧ S.data.toList = manyL xs ∧ W.data.toList = xs.flatMap runL ∧ S.size ≤ 100 * i ∧ W.size ≤ 100 * i
theorem ManyW.nil : ManyW 0 ⟨#[]⟩ ⟨#[]⟩ := ⟨[], rfl, rfl, rfl, Nat.le_refl _, Nat.le_refl _⟩
theorem ManyW.step {i : Nat} {S W x : ByteArray} (h : ManyW i S W) (hx : x.size ≤ 20) (hr : (runL x.data.toList).length ≤ 100) : ManyW (i + 1) (S ++ x ++ (⟨#[10]⟩ : ByteArray)) (W ++ (⟨(runL x.data.toList).toArray⟩ : ByteArray)) := by
  obtain ⟨xs, h1, h2, h3, h4, h5⟩ := h
  refine ⟨xs ++ [x.data.toList], by rw [List.length_append, h1]; rfl, ?_, ?_, ?_, ?_⟩
  · rw [manyL_app, ← h2]; simp [ByteArray.data_append]
  · rw [List.flatMap_append, ← h3]; simp [ByteArray.data_append]
  · rw [ByteArray.size_append, ByteArray.size_append]
    have : (⟨#[10]⟩ : ByteArray).size = 1 := rfl
    omega
  · rw [ByteArray.size_append]
    have : (⟨(runL x.data.toList).toArray⟩ : ByteArray).size = (runL x.data.toList).length := by rw [size_eq]
    omega
theorem ManyW.fin {i : Nat} {S W : ByteArray} (h : ManyW i S W) : (⟨(runL S.data.toList).toArray⟩ : ByteArray) = W := by
  obtain ⟨xs, h1, h2, h3, h4, h5⟩ := h
  apply data_inj
  rw [h2, h3, runL_many]
theorem ManyW.sz {i : Nat} {S W : ByteArray} (h : ManyW i S W) : S.size ≤ 100 * i ∧ W.size ≤ 100 * i := by
  obtain ⟨xs, h1, h2, h3, h4, h5⟩ := h; exact ⟨h4, h5⟩
set_option maxHeartbeats 8000000 in
set_option maxRecDepth 100000 in
theorem consoleMany_ok {w : World} (ht : Tab w) {a : Option Addr} {n c : Nat} {zs : List Int} (hz : RdS w eInt (.slice a n c) zs) (hzb : zs.length ≤ 140737488355328) : Calls Tryz.prog 5 #[.slice a n c] w fun e w' => e = .returned (.bool true) ∧ Frm No w w' := by
  have H0 := conAwake_ok ht
  have HT := Lib.hid ht
  have hn := hz.facts
  have HN := Lib.hid hn.1
  have R1 := Lib.hid hz
  have hle : n ≤ 140737488355328 := by rw [hn.1]; exact hzb
  clear hn hz ht hzb
  go_enter Tryz.func5, Tryz.ntmps5
  go_wp2_with (fail)
  refine H0.mono ?_
  rintro e w0 ⟨rfl, f0⟩
  clear H0
  go_upto_region 4 with fail
  obtain ⟨W0, hW0⟩ : ∃ W, W = w0.alloc (.cells (manyA.map Value.string).toArray 9) := ⟨_, rfl⟩
  have F0 : Frm No w W0 := by rw [hW0]; exact f0.al _
  have B0 : W0.heap[w0.heap.size]? = some (.cells (manyA.map Value.string).toArray 9 (0, 0)) := by rw [hW0]; exact heap_alloc_new w0 _
  unfold manyA at hW0
  simp only [List.map_cons, List.map_nil] at hW0
  rw [← hW0]
  clear hW0 f0
  generalize w0.heap.size = g0 at B0 ⊢
  go_wp2_with (fail)
  go_loopg [4, 5, 6] (30 + 1) (fun gg sv wv iv wr => ∃ (i : Nat) (S W : ByteArray), iv = .int .i64 i ∧ sv = .string S ∧ wv = .string W ∧ i ≤ 30 ∧ gg = 30 - i + 1 ∧ Frm No W0 wr ∧ ManyW i S W)
  case atStart => exact ⟨0, ⟨#[]⟩, ⟨#[]⟩, rfl, rfl, rfl, by omega, rfl, Frm.refl _ _, ManyW.nil⟩
  case round =>
    obtain ⟨i, S, W, rfl, rfl, rfl, hi, hg, F, M⟩ := hrel
    have hG := Lib.hid hg
    have hsz := M.sz
    have HM := Lib.hid M
    have hS : S.size ≤ 3000 := by omega
    have hW : W.size ≤ 3000 := by omega
    have FF := F0.trans F
    clear hg M hsz
    have fin : ∀ (H : Frm No w wr), Hid (Calls Tryz.prog 9 #[.string S] wr fun e w' => e = .returned (.tuple #[.string W, .int .i64 0]) ∧ Frm No wr w') := fun H => Lib.hid (by
      have h := run_ok (HT.out.frm H) S (by omega)
      rw [HM.out.fin] at h
      exact h)
    have HF := fin FF
    clear fin
    by_cases h1 : i < n
    · by_cases h2 : i < 30
      · have l1 : i < zs.length := by rw [← HN.out]; exact h1
        obtain ⟨b, off, rfl, hbb, hc⟩ := (R1.out.no FF).at l1
        have e0 : wr.cell? ⟨b, off + i, none⟩ = some (.int .i64 zs[i]) := by have := hc 0 _ rfl; rwa [show off + (i * eInt.k + 0) = off + i from by show off + (i * 1 + 0) = off + i; omega] at this
        clear hc
        obtain ⟨z, hz⟩ : ∃ z, Hid (z = zs[i]) := ⟨_, Lib.hid rfl⟩
        rw [← hz.out] at e0
        obtain ⟨k, hk, hkw⟩ := wmod z 14 (by decide) (by decide)
        obtain ⟨x, hx⟩ : ∃ x, Hid (x = manyA[k]'hk) := ⟨_, Lib.hid rfl⟩
        have hxb := manyA_b k hk
        rw [← hx.out] at hxb
        have c0 : wr.cell? ⟨g0, k, none⟩ = some (.string x) := by
          rw [obj_cell (F.obj B0 id), List.getElem?_toArray, List.getElem?_map, List.getElem?_eq_getElem (show k < manyA.length from hk), hx.out]
          rfl
        have HS1 := Lib.hid (HM.out.step hxb.1 hxb.2)
        have HR := Lib.hid (run_ok (HT.out.frm FF) x (by omega))
        obtain ⟨t, htt⟩ : ∃ t : ByteArray, Hid (t = ⟨(runL x.data.toList).toArray⟩) := ⟨_, Lib.hid rfl⟩
        have hts : t.size ≤ 100 := by rw [htt.out, size_eq]; show (List.toArray _).toList.length ≤ _; rw [List.toList_toArray]; exact hxb.2
        rw [← htt.out] at HS1 HR
        have hx20 := hxb.1
        have hw2 : wrap64 ((IntKind.u64.wrap z).tmod 14) = (k : Int) := hkw
        clear hxb hkw HF
        go_wp2_with (fail)
        refine HR.out.mono ?_
        rintro e w1 ⟨rfl, f1⟩
        go_wp2_with (fail)
        refine (num_ok 0 _).mono ?_
        rintro e w2 ⟨rfl, rfl⟩
        go_wp2_with (fail)
        go_roundg (30 - (i + 1) + 1)
        case measure => have := hG.out; omega
        case rel => exact ⟨i + 1, S ++ x ++ ⟨#[10]⟩, W ++ t, by go_num, rfl, rfl, by omega, rfl, F.trans f1, HS1.out⟩
      · go_wp2_with (fail)
        refine HF.out.mono ?_
        rintro e w1 ⟨rfl, f1⟩
        go_wp2_with (fail)
        refine (num_ok 0 _).mono ?_
        rintro e w2 ⟨rfl, rfl⟩
        go_wp2_with (fail)
        go_ret
        exact ⟨rfl, FF.trans f1⟩
    · go_wp2_with (fail)
      refine HF.out.mono ?_
      rintro e w1 ⟨rfl, f1⟩
      go_wp2_with (fail)
      refine (num_ok 0 _).mono ?_
      rintro e w2 ⟨rfl, rfl⟩
      go_wp2_with (fail)
      go_ret
      exact ⟨rfl, FF.trans f1⟩
set_option maxRecDepth 100000 in
theorem intsR_of {base : Nat} {w : World} {v : Value} (ok : Value.okWide Tryz.prog w .any base 33 v) (h : Rd Tryz.prog w 33 v.cells.toList) : ∃ a n c l, v = .slice a n c ∧ RdS w eInt v l ∧ l.length ≤ 140737488355328 := by
  obtain ⟨a, n, c, rfl⟩ := okWide_slice Tryz.underlying33 ok
  obtain ⟨l, hl, hb⟩ := rdS_of (E := eInt) rfl ⟨a, n, c, rfl⟩ Tryz.underlying33 (by kernel_rfl) (fun cs h => by
    obtain ⟨n, h1, -⟩ := h.int Tryz.underlying3
    exact ⟨n, h1.symm⟩) h
  rw [show Tryz.prog.bytesOf 3 = 8 by kernel_rfl] at hb
  unfold reachBytes at hb
  exact ⟨a, n, c, l, rfl, hl, by omega⟩
set_option maxRecDepth 100000 in
theorem consoleMany_row {base : Nat} (w : World) (ht : Tab w) {v0 : Value} (ok0 : Value.okWide Tryz.prog w .any base 33 v0) (h0 : Rd Tryz.prog w 33 v0.cells.toList) : Calls Tryz.prog 5 #[v0] w fun e w' => e = .returned (.bool true) ∧ Below w.heap.size w w' := by
  obtain ⟨a, n, c, l, rfl, hl, hb⟩ := intsR_of ok0 h0
  exact (consoleMany_ok ht hl hb).mono fun e w' ⟨he, f⟩ => ⟨he, f.below (fun _ _ h => h) (Nat.le_refl _)⟩
end Go.Proofs.YtgpdpalhkkjmiaaGreatDoor

/- ConsoleSets: the plain law. -/
namespace Go.Proofs.YtgpdpalhkkjmiaaGreatDoor
set_option linter.unusedVariables false
set_option linter.unusedSimpArgs false
open Go.RowKit Go.Lib Go.Tt Go.Shelf
theorem w8_key : ∀ k : Nat, k < 8 → w8 k = [119, UInt8.ofNat (48 + k)]
  | 0, _ => by kernel_rfl
  | 1, _ => by kernel_rfl
  | 2, _ => by kernel_rfl
  | 3, _ => by kernel_rfl
  | 4, _ => by kernel_rfl
  | 5, _ => by kernel_rfl
  | 6, _ => by kernel_rfl
  | 7, _ => by kernel_rfl
  | k + 8, h => by omega
theorem w8B_key {k : Nat} (h : k < 8) : (w8B k).data.toList = [119, UInt8.ofNat (48 + k)] := by
  unfold w8B; rw [w8_key k h]
theorem w8_lt {a b : Nat} (hb : b < 8) (h : a < b) : ltB (w8B a) (w8B b) := by
  unfold ltB
  rw [w8B_key (by omega), w8B_key hb, ← bltL_iff]
  unfold bltL
  have h1 : Nat.blt (119 : UInt8).toNat (119 : UInt8).toNat = false := by decide
  have h2 : Nat.blt (UInt8.ofNat (48 + a)).toNat (UInt8.ofNat (48 + b)).toNat = true := by
    show Nat.ble ((UInt8.ofNat (48 + a)).toNat + 1) (UInt8.ofNat (48 + b)).toNat = true
    rw [Nat.ble_eq]
    simp only [UInt8.toNat_ofNat']
    omega
  rw [h1]
  unfold bltL
  rw [h2]
  rfl
theorem w8_inj {a b : Nat} (ha : a < 8) (hb : b < 8) (h : w8B a = w8B b) : a = b := by
  have h1 := congrArg (fun x : ByteArray => x.data.toList) h
  simp only [w8B_key ha, w8B_key hb, List.cons.injEq, and_true, true_and] at h1
  have h2 := congrArg UInt8.toNat h1
  simp only [UInt8.toNat_ofNat'] at h2
  omega
/-- Who is in, of the first n. -/
def inL (fl : List Bool) (n : Nat) : List Nat := (List.range n).filter fun k => fl.getD k false
theorem inL_lt {fl : List Bool} {n k : Nat} (h : k ∈ inL fl n) : k < n := List.mem_range.1 (List.mem_filter.1 h).1
theorem inL_pw (fl : List Bool) {n : Nat} (h : n ≤ 8) : ((inL fl n).map w8B).Pairwise ltB := by
  rw [List.pairwise_map]
  unfold inL
  refine (List.Pairwise.filter _ List.pairwise_lt_range).imp_of_mem ?_
  intro a b ha hb hab
  exact w8_lt (Nat.lt_of_lt_of_le (List.mem_range.1 (List.mem_filter.1 hb).1) h) hab
theorem inL_step (fl : List Bool) (n : Nat) : inL fl (n + 1) = if fl.getD n false then inL fl n ++ [n] else inL fl n := by
  unfold inL
  rw [List.range_succ, List.filter_append]
  cases h : fl.getD n false with
  | true => rw [List.filter_cons_of_pos (by exact h), List.filter_nil, if_pos rfl]
  | false => rw [List.filter_cons_of_neg (by rw [h]; decide), List.filter_nil, List.append_nil, if_neg (by decide)]
/-- A pick's word. -/
def pickB (p : Nat × Bool) : ByteArray := ⟨(pickW p.1 p.2).toArray⟩
/-- Flags and entries tell the same. -/
structure FlagW (fl : List Bool) (l : List En) : Prop where
  len : fl.length = 8
  of : ∀ e ∈ l, ∃ k, k < 8 ∧ e.2.2 = w8B k
  iff : ∀ k, k < 8 → (fl.getD k false = true ↔ ∃ e ∈ l, e.2.2 = w8B k)
theorem FlagW.nil : FlagW [false, false, false, false, false, false, false, false] [] := ⟨rfl, by simp, by
  intro k hk
  rcases (by omega : k = 0 ∨ k = 1 ∨ k = 2 ∨ k = 3 ∨ k = 4 ∨ k = 5 ∨ k = 6 ∨ k = 7) with rfl | rfl | rfl | rfl | rfl | rfl | rfl | rfl <;> simp⟩
theorem set_getD (fl : List Bool) (k j : Nat) (b : Bool) (hk : k < fl.length) : (fl.set k b).getD j false = if j = k then b else fl.getD j false := by
  simp only [List.getD_eq_getElem?_getD, List.getElem?_set]
  by_cases h : k = j
  · subst h; simp [hk]
  · rw [if_neg h, if_neg (fun e => h e.symm)]
theorem w8B_dash {k : Nat} (h : k < 8) : dashB (w8B k) = false ∧ (w8B k).size ≤ 256 := by
  unfold dashB
  rw [size_eq, w8B_key h]
  exact ⟨rfl, by simp⟩
theorem pick_dash {k : Nat} : dashB (pickB (k, true)) = true ∧ cutB (pickB (k, true)) = w8B k := by
  unfold dashB cutB pickB pickW
  rw [if_pos rfl]
  have h : hasPrefix (45 :: w8 k) [45] = true := by unfold hasPrefix; simp [List.isPrefixOf]
  refine ⟨h, ?_⟩
  show (⟨(trimPrefix (45 :: w8 k) [45]).toArray⟩ : ByteArray) = _
  unfold trimPrefix
  rw [if_pos h]
  rfl
theorem FlagW.step {fl : List Bool} {l l' : List En} {i k : Nat} {d : Bool} (h : FlagW fl l) (hk : k < 8) (hs : setS i l (pickB (k, d)) = some l') : FlagW (fl.set k (!d)) l' := by
  have hlen : k < fl.length := by rw [h.len]; exact hk
  cases d with
  | true =>
    unfold setS at hs
    rw [if_pos pick_dash.1, pick_dash.2] at hs
    cases hs
    refine ⟨by rw [List.length_set]; exact h.len, fun e he => h.of e (List.mem_filter.1 he).1, fun j hj => ?_⟩
    rw [set_getD fl k j _ hlen]
    by_cases hjk : j = k
    · subst hjk
      rw [if_pos rfl]
      constructor
      · intro h; cases h
      · rintro ⟨e, he, hv⟩
        have := (List.mem_filter.1 he).2
        rw [hv, Bool.not_eq_true', ← Bool.not_eq_true, eqC_iff] at this
        exact absurd rfl this
    · rw [if_neg hjk, h.iff j hj]
      constructor
      · rintro ⟨e, he, hv⟩
        refine ⟨e, List.mem_filter.2 ⟨he, ?_⟩, hv⟩
        rw [hv, Bool.not_eq_true', ← Bool.not_eq_true, eqC_iff]
        exact fun h => hjk (w8_inj hj hk h)
      · rintro ⟨e, he, hv⟩
        exact ⟨e, (List.mem_filter.1 he).1, hv⟩
  | false =>
    have hp : pickB (k, false) = w8B k := rfl
    have hw := w8B_dash hk
    rw [hp] at hs
    unfold setS at hs
    rw [if_neg (by rw [hw.1]; decide), if_neg (by rw [Nat.ble_eq]; omega)] at hs
    cases hs
    refine ⟨by rw [List.length_set]; exact h.len, fun e he => ?_, fun j hj => ?_⟩
    · rw [List.mem_append, List.mem_singleton] at he
      rcases he with he | rfl
      · exact h.of e he
      · exact ⟨k, hk, rfl⟩
    · rw [set_getD fl k j _ hlen]
      by_cases hjk : j = k
      · subst hjk
        rw [if_pos rfl]
        exact ⟨fun _ => ⟨_, List.mem_append_right _ (List.mem_singleton.2 rfl), rfl⟩, fun _ => rfl⟩
      · rw [if_neg hjk, h.iff j hj]
        constructor
        · rintro ⟨e, he, hv⟩
          exact ⟨e, List.mem_append_left _ he, hv⟩
        · rintro ⟨e, he, hv⟩
          rw [List.mem_append, List.mem_singleton] at he
          rcases he with he | rfl
          · exact ⟨e, he, hv⟩
          · exact absurd (w8_inj hk hj hv).symm hjk
theorem setS_pick {i : Nat} {l : List En} {k : Nat} (hk : k < 8) (d : Bool) : ∃ l', setS i l (pickB (k, d)) = some l' := by
  cases d with
  | true => exact ⟨_, by unfold setS; rw [if_pos pick_dash.1]⟩
  | false =>
    have hw := w8B_dash hk
    have hp : pickB (k, false) = w8B k := rfl
    exact ⟨_, by unfold setS; rw [hp, if_neg (by rw [hw.1]; decide), if_neg (by rw [Nat.ble_eq]; omega)]⟩
/-- What the flags tell. -/
def toldF (fl : List Bool) (n : Nat) : List UInt8 := joinT ((inL fl n).map w8B) [32]
theorem FlagW.vals {fl : List Bool} {l : List En} (h : FlagW fl l) : valsI l = (inL fl 8).map w8B := by
  rw [← valsOf_I]
  refine valsOf_eq (inL_pw fl (Nat.le_refl 8)) fun x => ?_
  rw [List.mem_map]
  constructor
  · rintro ⟨k, hk, rfl⟩
    have hk8 := inL_lt hk
    exact (h.iff k hk8).1 (List.mem_filter.1 hk).2
  · rintro ⟨e, he, rfl⟩
    obtain ⟨k, hk, hv⟩ := h.of e he
    exact ⟨k, List.mem_filter.2 ⟨List.mem_range.2 hk, (h.iff k hk).2 ⟨e, he, hv⟩⟩, hv.symm⟩
/-- The law's loop: picks so far. -/
def SetsW (i : Nat) (S : ByteArray) (fl : List Bool) : Prop := ∃ (ps : List (Nat × Bool)) (l : List En), ps.length = i ∧ (∀ p ∈ ps, p.1 < 8) ∧ S.data.toList = nSet ++ ps.flatMap (fun p => 32 :: pickW p.1 p.2) ∧ setG 0 [] (ps.map pickB) = some l ∧ FlagW fl l ∧ S.size ≤ 3 + 40 * i
theorem SetsW.nil : SetsW 0 ⟨#[115, 101, 116]⟩ [false, false, false, false, false, false, false, false] := ⟨[], [], rfl, by simp, rfl, rfl, FlagW.nil, by decide⟩
theorem w8_len {k : Nat} (h : k < 8) : (w8 k).length = 2 := by rw [w8_key k h]; rfl
theorem SetsW.step {i : Nat} {S : ByteArray} {fl : List Bool} (h : SetsW i S fl) {k : Nat} (hk : k < 8) (d : Bool) {S' : ByteArray} (hS : S'.data.toList = S.data.toList ++ 32 :: pickW k d) : SetsW (i + 1) S' (fl.set k (!d)) := by
  obtain ⟨ps, l, h1, h2, h3, h4, h5, h6⟩ := h
  obtain ⟨l', hl'⟩ := setS_pick (i := 0 + (ps.map pickB).length) (l := l) hk d
  refine ⟨ps ++ [(k, d)], l', by rw [List.length_append, h1]; rfl, ?_, ?_, ?_, h5.step hk hl', ?_⟩
  · intro p hp
    rw [List.mem_append, List.mem_singleton] at hp
    rcases hp with hp | rfl
    · exact h2 p hp
    · exact hk
  · rw [hS, h3, List.flatMap_append]; simp
  · rw [List.map_append, List.map_cons, List.map_nil, setG_app, h4]
    exact hl'
  · have hp : (pickW k d).length ≤ 3 := by
      unfold pickW
      split
      · rw [List.length_cons, w8_len hk]; omega
      · rw [w8_len hk]; omega
    have : S'.size = S.size + (1 + (pickW k d).length) := by
      rw [size_eq, hS, List.length_append, List.length_cons, ← size_eq]; omega
    omega
theorem pickW_ok {p : Nat × Bool} (h : p.1 < 8) : pickW p.1 p.2 ≠ [] ∧ ∀ x ∈ pickW p.1 p.2, wsB x = false ∧ x ≠ 10 := by
  have key : ∀ x ∈ w8 p.1, wsB x = false ∧ x ≠ 10 := by
    intro x hx
    rw [w8_key p.1 h] at hx
    simp only [List.mem_cons, List.not_mem_nil, or_false] at hx
    rcases hx with rfl | rfl
    · decide
    · rcases (by omega : p.1 = 0 ∨ p.1 = 1 ∨ p.1 = 2 ∨ p.1 = 3 ∨ p.1 = 4 ∨ p.1 = 5 ∨ p.1 = 6 ∨ p.1 = 7) with h | h | h | h | h | h | h | h <;> rw [h] <;> decide
  unfold pickW
  split
  · refine ⟨by simp, fun x hx => ?_⟩
    rw [List.mem_cons] at hx
    rcases hx with rfl | hx
    · decide
    · exact key x hx
  · exact ⟨by rw [w8_key p.1 h]; simp, key⟩
theorem SetsW.fin {i : Nat} {S : ByteArray} {fl : List Bool} (h : SetsW i S fl) : runL S.data.toList = toldF fl 8 ++ [10] := by
  obtain ⟨ps, l, h1, h2, h3, h4, h5, h6⟩ := h
  have e : ps.flatMap (fun p => 32 :: pickW p.1 p.2) = (ps.map fun p => pickW p.1 p.2).flatMap fun v => 32 :: v := by rw [List.flatMap_map]
  rw [h3, e, run_line (w := nSet) ⟨by decide, by decide⟩ (fun v hv => by
    rw [List.mem_map] at hv
    obtain ⟨p, hp, rfl⟩ := hv
    exact pickW_ok (h2 p hp)) (by decide)]
  have ht : tellL nSet ((ps.map fun p => pickW p.1 p.2).map fun v => ⟨v.toArray⟩) = setT (ps.map pickB) := by
    rw [List.map_map]; rfl
  rw [ht]
  unfold setT toldF
  rw [h4, ← h5.vals]
theorem joinT_snoc (l : List ByteArray) (x : ByteArray) (sep : List UInt8) : joinT (l ++ [x]) sep = if l = [] then x.data.toList else joinT l sep ++ (sep ++ x.data.toList) := by
  cases l with
  | nil => simp [joinT, Lib.join_one]
  | cons y t =>
    rw [if_neg (by simp)]
    unfold joinT
    rw [List.cons_append, List.map_cons, List.map_append, Lib.join_cons, List.map_cons (l := t), Lib.join_cons]
    simp [Lib.joinTail]
theorem toldF_step (fl : List Bool) (n : Nat) : toldF fl (n + 1) = if fl.getD n false then (if inL fl n = [] then w8 n else toldF fl n ++ (32 :: w8 n)) else toldF fl n := by
  unfold toldF
  rw [inL_step]
  by_cases h : fl.getD n false = true
  · rw [if_pos h, if_pos h, List.map_append, List.map_cons, List.map_nil, joinT_snoc]
    by_cases h0 : inL fl n = []
    · rw [if_pos h0, h0, List.map_nil, if_pos rfl]; rfl
    · rw [if_neg h0, if_neg (by simpa using h0)]; rfl
  · rw [if_neg h, if_neg h]
theorem toldF_nil {fl : List Bool} {n : Nat} (hn : n ≤ 8) : toldF fl n = [] ↔ inL fl n = [] := by
  unfold toldF
  constructor
  · intro h
    cases hl : inL fl n with
    | nil => rfl
    | cons k t =>
      have hk : k < 8 := Nat.lt_of_lt_of_le (inL_lt (fl := fl) (n := n) (by rw [hl]; exact List.mem_cons_self ..)) hn
      rw [hl, List.map_cons] at h
      unfold joinT at h
      rw [List.map_cons, Lib.join_cons, w8B_key hk] at h
      simp at h
  · intro h; rw [h]; rfl
theorem toldF_len (fl : List Bool) : ∀ n, n ≤ 8 → (toldF fl n).length ≤ 10 * n
  | 0, _ => by unfold toldF inL; simp [joinT_nil]
  | n + 1, h => by
    have ih := toldF_len fl n (by omega)
    have hw := w8_len (k := n) (by omega)
    rw [toldF_step]
    split
    · split
      · omega
      · rw [List.length_append, List.length_cons]; omega
    · omega
end Go.Proofs.YtgpdpalhkkjmiaaGreatDoor

/- The contracts of the document's own disk (a struct of two texts). -/
import Derived.Test.YtheejjifcpjdbaaDisk5
namespace Go.Proofs.Ytheejjifcpjdbaa
set_option linter.unusedVariables false
set_option linter.unusedSimpArgs false
open Go.RowKit Go.Lib Go.Tt

/-- A list of bytes as a text. -/
def txt (l : List UInt8) : ByteArray := ⟨l.toArray⟩
theorem txt_size (l : List UInt8) : (txt l).size = l.length := by simp [txt, ByteArray.size]

/-- The document's disk, in the world. -/
def RefIs (w : World) (b : Nat) (d : DiskD) : Prop :=
  w.heap[b]? = some (.cells #[.int .i64 d.size, .string (txt d.kept), .string (txt d.waits), .bool d.down] 96 (0, 0))

section
variable {w : World} {b : Nat} {d : DiskD}
theorem RefIs.c0 (h : RefIs w b d) : w.cell? ⟨b, 0, none⟩ = some (.int .i64 d.size) := by simp [World.cell?, show w.heap[b]? = _ from h]
theorem RefIs.c1 (h : RefIs w b d) : w.cell? ⟨b, 1, none⟩ = some (.string (txt d.kept)) := by simp [World.cell?, show w.heap[b]? = _ from h]
theorem RefIs.c2 (h : RefIs w b d) : w.cell? ⟨b, 2, none⟩ = some (.string (txt d.waits)) := by simp [World.cell?, show w.heap[b]? = _ from h]
theorem RefIs.c3 (h : RefIs w b d) : w.cell? ⟨b, 3, none⟩ = some (.bool d.down) := by simp [World.cell?, show w.heap[b]? = _ from h]
theorem RefIs.fr (h : RefIs w b d) (j : Nat) : w.frozen? ⟨b, j, none⟩ = false := by simp [World.frozen?, show w.heap[b]? = _ from h]
theorem RefIs.lt (h : RefIs w b d) : b < w.heap.size := lt_of_block h
end

theorem rnew_ok (n : Int) (w : World) (h1 : 64 ≤ n) (h2 : n ≤ 65536) :
    Calls Try.prog 22 #[.int .i64 n] w fun e w' => e = .returned (.tuple #[.pointer (some ⟨w.heap.size, 0, none⟩), .int .i64 0]) ∧ RefIs w' w.heap.size ⟨n, false, [], []⟩ ∧ Frm No w w' ∧ w'.heap.size = w.heap.size + 1 := by
  have key : Calls Try.prog 22 #[.int .i64 n] w fun e w' => e = .returned (.tuple #[.pointer (some ⟨w.heap.size, 0, none⟩), .int .i64 0]) ∧ w' = w.alloc (.cells #[.int .i64 n, .string ByteArray.empty, .string ByteArray.empty, .bool false] 96) := by
    go_enter Try.func22, Try.ntmps22
    go_wp2
    go_ret2
    exact ⟨rfl, rfl⟩
  refine key.mono ?_
  rintro e w' ⟨rfl, rfl⟩
  exact ⟨rfl, heap_alloc_new _ _, Frm.alloc _ _ _, by simp⟩
theorem rnew_no (n : Int) (w : World) (h : n < 64 ∨ 65536 < n) :
    Calls Try.prog 22 #[.int .i64 n] w fun e w' => e = .returned (.tuple #[.pointer none, .int .i64 2000]) ∧ w = w' := by
  rcases h with h | h
  · go_enter Try.func22, Try.ntmps22
    go_wp2
    go_ret2
    exact ⟨rfl, rfl⟩
  · have h' : ¬ n < 64 := by omega
    go_enter Try.func22, Try.ntmps22
    go_wp2
    go_ret2
    exact ⟨rfl, rfl⟩

set_option maxRecDepth 100000 in
theorem rroom_up {w : World} {b : Nat} {d : DiskD} (h : RefIs w b d) (hd : d.down = false) (b1 : d.size ≤ 65536) (b0 : 0 ≤ d.size) (b2 : (d.kept.length : Int) + d.waits.length ≤ d.size) :
    Calls Try.prog 38 #[.pointer (some ⟨b, 0, none⟩)] w fun e w' => e = .returned (.int .i64 (d.size - d.kept.length - d.waits.length)) ∧ ∃ n, w' = w.drewN n := by
  have h0 := h.c0
  have h1 := h.c1
  have h2 := h.c2
  have h3 : w.cell? ⟨b, 3, none⟩ = some (.bool false) := by rw [h.c3, hd]
  have s1 := txt_size d.kept
  have s2 := txt_size d.waits
  clear hd
  go_enter Try.func38, Try.ntmps38
  go_wp2
  go_quiet (fail)
  go_wp2
  go_ret
  exact ⟨rfl, _, rfl⟩
theorem rroom_down {w : World} {b : Nat} {d : DiskD} (h : RefIs w b d) (hd : d.down = true) :
    Calls Try.prog 38 #[.pointer (some ⟨b, 0, none⟩)] w fun e w' => e = .returned (.int .i64 0) ∧ w = w' := by
  have h3 : w.cell? ⟨b, 3, none⟩ = some (.bool true) := by rw [h.c3, hd]
  clear hd
  go_enter Try.func38, Try.ntmps38
  go_wp2
  go_ret
  exact ⟨rfl, rfl⟩

theorem fset {b i : Nat} (w : World) (u : Value) : Frm (fun k => k = b) w (w.setCell ⟨b, i, none⟩ u) := Frm.setCell _ _ _ rfl
theorem txt_app (a b : List UInt8) : txt (a ++ b) = txt a ++ txt b := by
  apply ByteArray.ext
  simp [txt, ByteArray.data_append]
theorem txt_of (s : ByteArray) : txt s.data.toList = s := by
  apply ByteArray.ext
  simp [txt]
theorem txt_take (l : List UInt8) (m : Nat) : (txt l).extract 0 m = txt (l.take m) := by
  apply ByteArray.ext
  simp [txt, ByteArray.data_extract]
theorem RefIs.set2 {w : World} {b : Nat} {d : DiskD} (h : RefIs w b d) (l : List UInt8) : RefIs (w.setCell ⟨b, 2, none⟩ (.string (txt l))) b { d with waits := l } := by
  unfold RefIs; rw [obj_setCell (show w.heap[b]? = _ from h)]; simp
theorem RefIs.set1 {w : World} {b : Nat} {d : DiskD} (h : RefIs w b d) (l : List UInt8) : RefIs (w.setCell ⟨b, 1, none⟩ (.string (txt l))) b { d with kept := l } := by
  unfold RefIs; rw [obj_setCell (show w.heap[b]? = _ from h)]; simp
theorem RefIs.set3 {w : World} {b : Nat} {d : DiskD} (h : RefIs w b d) (x : Bool) : RefIs (w.setCell ⟨b, 3, none⟩ (.bool x)) b { d with down := x } := by
  unfold RefIs; rw [obj_setCell (show w.heap[b]? = _ from h)]; simp
theorem RefIs.frm {w w' : World} {G : Nat → Prop} {b : Nat} {d : DiskD} (h : RefIs w b d) (hf : Frm G w w') (hb : ¬ G b) : RefIs w' b d := hf.obj h hb
theorem RefIs.drewN {w : World} {b : Nat} {d : DiskD} (h : RefIs w b d) (n : Nat) : RefIs (w.drewN n) b d := h

set_option maxRecDepth 100000 in
theorem rappend_ok {w : World} {b : Nat} {d : DiskD} (h : RefIs w b d) (hd : d.down = false) (b1 : d.size ≤ 65536) (b0 : 0 ≤ d.size) (b2 : (d.kept.length : Int) + d.waits.length ≤ d.size) (s : ByteArray) (hfit : (s.size : Int) ≤ d.size - d.kept.length - d.waits.length) :
    Calls Try.prog 26 #[.pointer (some ⟨b, 0, none⟩), .string s] w fun e w' => e = .returned (.int .i64 0) ∧ RefIs w' b { d with waits := d.waits ++ s.data.toList } ∧ Frm (fun k => k = b) w w' := by
  have key : Calls Try.prog 26 #[.pointer (some ⟨b, 0, none⟩), .string s] w fun e w' => e = .returned (.int .i64 0) ∧ ∃ n, w' = (w.drewN n).setCell ⟨b, 2, none⟩ (.string (txt d.waits ++ s)) := by
    have h2 := h.c2
    have h3 : w.cell? ⟨b, 3, none⟩ = some (.bool false) := by rw [h.c3, hd]
    have f2 := h.fr 2
    have s2 := txt_size d.waits
    have hr := fun W (e : W = w) => by subst e; exact rroom_up h hd b1 b0 b2
    have HD := Lib.hid hd
    clear hd
    go_enter Try.func26, Try.ntmps26
    go_wp2_with (first | (go_at_call 38; refine (hr _ rfl).mono ?_; rintro e w' ⟨rfl, n, rfl⟩))
    go_ret
    exact ⟨rfl, _, rfl⟩
  refine key.mono ?_
  rintro e w' ⟨rfl, n, rfl⟩
  refine ⟨rfl, ?_, (Frm.drewN _ _ _).trans (fset _ _)⟩
  rw [← txt_of s, ← txt_app]
  simpa [txt_of] using (h.drewN n).set2 (d.waits ++ s.data.toList)
set_option maxRecDepth 100000 in
theorem rappend_full {w : World} {b : Nat} {d : DiskD} (h : RefIs w b d) (hd : d.down = false) (b1 : d.size ≤ 65536) (b0 : 0 ≤ d.size) (b2 : (d.kept.length : Int) + d.waits.length ≤ d.size) (s : ByteArray) (hfit : d.size - d.kept.length - d.waits.length < (s.size : Int)) :
    Calls Try.prog 26 #[.pointer (some ⟨b, 0, none⟩), .string s] w fun e w' => e = .returned (.int .i64 2001) ∧ ∃ n, w' = w.drewN n := by
  have h3 : w.cell? ⟨b, 3, none⟩ = some (.bool false) := by rw [h.c3, hd]
  have hr := fun W (e : W = w) => by subst e; exact rroom_up h hd b1 b0 b2
  have HD := Lib.hid hd
  clear hd
  go_enter Try.func26, Try.ntmps26
  go_wp2_with (first | (go_at_call 38; refine (hr _ rfl).mono ?_; rintro e w' ⟨rfl, n, rfl⟩))
  go_ret
  exact ⟨rfl, _, rfl⟩
theorem rappend_down {w : World} {b : Nat} {d : DiskD} (h : RefIs w b d) (hd : d.down = true) (s : ByteArray) :
    Calls Try.prog 26 #[.pointer (some ⟨b, 0, none⟩), .string s] w fun e w' => e = .returned (.int .i64 2002) ∧ w = w' := by
  have h3 : w.cell? ⟨b, 3, none⟩ = some (.bool true) := by rw [h.c3, hd]
  clear hd
  go_enter Try.func26, Try.ntmps26
  go_wp2
  go_ret
  exact ⟨rfl, rfl⟩

set_option maxRecDepth 100000 in
theorem rsync_ok {w : World} {b : Nat} {d : DiskD} (h : RefIs w b d) (hd : d.down = false) (b1 : d.size ≤ 65536) (b2 : (d.kept.length : Int) + d.waits.length ≤ d.size) :
    Calls Try.prog 28 #[.pointer (some ⟨b, 0, none⟩)] w fun e w' => e = .returned (.int .i64 0) ∧ RefIs w' b { d with kept := d.kept ++ d.waits, waits := [] } ∧ Frm (fun k => k = b) w w' := by
  have key : Calls Try.prog 28 #[.pointer (some ⟨b, 0, none⟩)] w fun e w' => e = .returned (.int .i64 0) ∧ ∃ n, w' = ((w.drewN n).setCell ⟨b, 1, none⟩ (.string (txt d.kept ++ txt d.waits))).setCell ⟨b, 2, none⟩ (.string ByteArray.empty) := by
    have h1 := h.c1
    have h2 := h.c2
    have h3 : w.cell? ⟨b, 3, none⟩ = some (.bool false) := by rw [h.c3, hd]
    have f1 := h.fr 1
    have f2 := h.fr 2
    have s1 := txt_size d.kept
    have s2 := txt_size d.waits
    clear hd
    go_enter Try.func28, Try.ntmps28
    go_wp2
    refine wp_region_plan [([0, 1, 2, 3, 4, 5, 6, 7, 8, 9, 10, 11, 12], [])] 22 (by kernel_rfl) (by kernel_rfl) (by simp) ?_
    intro N hN
    simp only [wpSegs, List.map_cons, List.map_nil, List.getD_cons_zero, List.getD_cons_succ]
    go_wp2
    go_ret
    exact ⟨rfl, _, rfl⟩
  refine key.mono ?_
  rintro e w' ⟨rfl, n, rfl⟩
  refine ⟨rfl, ?_, ((Frm.drewN _ _ _).trans (fset _ _)).trans (fset _ _)⟩
  rw [← txt_app]
  exact ((h.drewN n).set1 (d.kept ++ d.waits)).set2 []
theorem rsync_down {w : World} {b : Nat} {d : DiskD} (h : RefIs w b d) (hd : d.down = true) :
    Calls Try.prog 28 #[.pointer (some ⟨b, 0, none⟩)] w fun e w' => e = .returned (.int .i64 2002) ∧ w = w' := by
  have h3 : w.cell? ⟨b, 3, none⟩ = some (.bool true) := by rw [h.c3, hd]
  clear hd
  go_enter Try.func28, Try.ntmps28
  go_wp2
  go_ret
  exact ⟨rfl, rfl⟩

theorem rrestart_down {w : World} {b : Nat} {d : DiskD} (h : RefIs w b d) (hd : d.down = true) :
    Calls Try.prog 32 #[.pointer (some ⟨b, 0, none⟩)] w fun e w' => e = .returned (.int .i64 0) ∧ RefIs w' b { d with down := false } ∧ Frm (fun k => k = b) w w' := by
  have key : Calls Try.prog 32 #[.pointer (some ⟨b, 0, none⟩)] w fun e w' => e = .returned (.int .i64 0) ∧ w' = w.setCell ⟨b, 3, none⟩ (.bool false) := by
    have h3 : w.cell? ⟨b, 3, none⟩ = some (.bool true) := by rw [h.c3, hd]
    have f3 := h.fr 3
    clear hd
    go_enter Try.func32, Try.ntmps32
    go_wp2
    go_ret
    exact ⟨rfl, rfl⟩
  refine key.mono ?_
  rintro e w' ⟨rfl, rfl⟩
  exact ⟨rfl, h.set3 false, fset _ _⟩
theorem rrestart_up {w : World} {b : Nat} {d : DiskD} (h : RefIs w b d) (hd : d.down = false) :
    Calls Try.prog 32 #[.pointer (some ⟨b, 0, none⟩)] w fun e w' => e = .returned (.int .i64 2000) ∧ w = w' := by
  have h3 : w.cell? ⟨b, 3, none⟩ = some (.bool false) := by rw [h.c3, hd]
  clear hd
  go_enter Try.func32, Try.ntmps32
  go_wp2
  go_ret
  exact ⟨rfl, rfl⟩

theorem rbytes_up {w : World} {b : Nat} {d : DiskD} (h : RefIs w b d) (hd : d.down = false) :
    Calls Try.prog 36 #[.pointer (some ⟨b, 0, none⟩)] w fun e w' => e = .returned (.tuple #[.string (txt d.kept), .int .i64 0]) ∧ w = w' := by
  have h1 := h.c1
  have h3 : w.cell? ⟨b, 3, none⟩ = some (.bool false) := by rw [h.c3, hd]
  clear hd
  go_enter Try.func36, Try.ntmps36
  go_wp2
  go_ret2
  exact ⟨rfl, rfl⟩
theorem rbytes_down {w : World} {b : Nat} {d : DiskD} (h : RefIs w b d) (hd : d.down = true) :
    Calls Try.prog 36 #[.pointer (some ⟨b, 0, none⟩)] w fun e w' => e = .returned (.tuple #[.string ByteArray.empty, .int .i64 2002]) ∧ w = w' := by
  have h3 : w.cell? ⟨b, 3, none⟩ = some (.bool true) := by rw [h.c3, hd]
  clear hd
  go_enter Try.func36, Try.ntmps36
  go_wp2
  go_ret2
  exact ⟨rfl, rfl⟩

set_option maxRecDepth 100000 in
theorem rcrash_ok {w : World} {b : Nat} {d : DiskD} (h : RefIs w b d) (hd : d.down = false) (b1 : d.size ≤ 65536) (b2 : (d.kept.length : Int) + d.waits.length ≤ d.size) (keep : Int) (hk : 0 ≤ keep) :
    Calls Try.prog 30 #[.pointer (some ⟨b, 0, none⟩), .int .i64 keep] w fun e w' => e = .returned (.int .i64 0) ∧ RefIs w' b { d with kept := d.kept ++ d.waits.take keep.toNat, waits := [], down := true } ∧ Frm (fun k => k = b) w w' := by
  obtain ⟨m, hm⟩ : ∃ m : Nat, (m : Int) = min keep d.waits.length := ⟨(min keep d.waits.length).toNat, by omega⟩
  have hml : m ≤ d.waits.length := by omega
  have htk : d.waits.take keep.toNat = d.waits.take m := by
    rcases Int.le_total keep d.waits.length with hh | hh
    · rw [show keep.toNat = m by omega]
    · rw [List.take_of_length_le (by omega), List.take_of_length_le (by omega)]
  have key : Calls Try.prog 30 #[.pointer (some ⟨b, 0, none⟩), .int .i64 keep] w fun e w' => e = .returned (.int .i64 0) ∧ ∃ n, w' = (((w.drewN n).setCell ⟨b, 1, none⟩ (.string (txt d.kept ++ (txt d.waits).extract 0 m))).setCell ⟨b, 2, none⟩ (.string ByteArray.empty)).setCell ⟨b, 3, none⟩ (.bool true) := by
    have h1 := h.c1
    have h2 := h.c2
    have h3 : w.cell? ⟨b, 3, none⟩ = some (.bool false) := by rw [h.c3, hd]
    have f1 := h.fr 1
    have f2 := h.fr 2
    have f3 := h.fr 3
    have s1 := txt_size d.kept
    have s2 := txt_size d.waits
    have hmn : (if (d.waits.length : Int) < keep then (d.waits.length : Int) else keep) = m := by split <;> omega
    clear hd htk hm
    go_enter Try.func30, Try.ntmps30
    go_wp2
    refine wp_region_plan [([0, 1, 2, 3, 4, 5, 6, 7, 8, 9, 10, 11, 12, 13, 14, 15], [8, 4]), ([16, 17, 18, 19, 20], [])] 39 (by kernel_rfl) (by kernel_rfl) (by simp) ?_
    intro N hN
    simp only [wpSegs, List.map_cons, List.map_nil, List.getD_cons_zero, List.getD_cons_succ]
    go_wp2
    refine ⟨again_cons (again_of rfl rfl ?_) (again_cons (again_of rfl rfl ?_) again_nil), ?_⟩
    · go_simp
    · go_simp
    go_wp2
    go_ret
    exact ⟨rfl, _, rfl⟩
  refine key.mono ?_
  rintro e w' ⟨rfl, n, rfl⟩
  refine ⟨rfl, ?_, (((Frm.drewN _ _ _).trans (fset _ _)).trans (fset _ _)).trans (fset _ _)⟩
  rw [txt_take, ← txt_app, htk]
  exact (((h.drewN n).set1 (d.kept ++ d.waits.take m)).set2 []).set3 true
theorem rcrash_neg {w : World} {b : Nat} {d : DiskD} (h : RefIs w b d) (hd : d.down = false) (keep : Int) (hk : keep < 0) :
    Calls Try.prog 30 #[.pointer (some ⟨b, 0, none⟩), .int .i64 keep] w fun e w' => e = .returned (.int .i64 2000) ∧ w = w' := by
  have h3 : w.cell? ⟨b, 3, none⟩ = some (.bool false) := by rw [h.c3, hd]
  clear hd
  go_enter Try.func30, Try.ntmps30
  go_wp2
  go_ret
  exact ⟨rfl, rfl⟩
theorem rcrash_down {w : World} {b : Nat} {d : DiskD} (h : RefIs w b d) (hd : d.down = true) (keep : Int) :
    Calls Try.prog 30 #[.pointer (some ⟨b, 0, none⟩), .int .i64 keep] w fun e w' => e = .returned (.int .i64 2002) ∧ w = w' := by
  have h3 : w.cell? ⟨b, 3, none⟩ = some (.bool true) := by rw [h.c3, hd]
  clear hd
  go_enter Try.func30, Try.ntmps30
  go_wp2
  go_ret
  exact ⟨rfl, rfl⟩

set_option maxRecDepth 100000 in
theorem rcut_ok {w : World} {b : Nat} {d : DiskD} (h : RefIs w b d) (hd : d.down = false) (k : Nat) (hk : k ≤ d.kept.length) (hw : d.waits = []) (hl : d.kept.length ≤ 65536) :
    Calls Try.prog 34 #[.pointer (some ⟨b, 0, none⟩), .int .i64 k] w fun e w' => e = .returned (.int .i64 0) ∧ RefIs w' b { d with kept := d.kept.take k } ∧ Frm (fun k => k = b) w w' := by
  have key : Calls Try.prog 34 #[.pointer (some ⟨b, 0, none⟩), .int .i64 k] w fun e w' => e = .returned (.int .i64 0) ∧ ∃ n, w' = (w.drewN n).setCell ⟨b, 1, none⟩ (.string ((txt d.kept).extract 0 k)) := by
    have h1 := h.c1
    have h2 : w.cell? ⟨b, 2, none⟩ = some (.string ByteArray.empty) := by rw [h.c2, hw]; rfl
    have h3 : w.cell? ⟨b, 3, none⟩ = some (.bool false) := by rw [h.c3, hd]
    have f1 := h.fr 1
    have s1 := txt_size d.kept
    have g1 : ¬ (k : Int) < 0 := by omega
    have g2 : ¬ (d.kept.length : Int) < k := by omega
    clear hd hw
    go_enter Try.func34, Try.ntmps34
    go_wp2
    go_ret
    exact ⟨rfl, 0, rfl⟩
  refine key.mono ?_
  rintro e w' ⟨rfl, n, rfl⟩
  refine ⟨rfl, ?_, (Frm.drewN _ _ _).trans (fset _ _)⟩
  rw [txt_take]
  exact (h.drewN n).set1 (d.kept.take k)
theorem txt_eq {a b : List UInt8} : txt a = txt b ↔ a = b := by
  constructor
  · intro h; have := congrArg (fun x => x.data.toList) h; simpa [txt] using this
  · rintro rfl; rfl
set_option maxRecDepth 100000 in
theorem rcut_bad {w : World} {b : Nat} {d : DiskD} (h : RefIs w b d) (hd : d.down = false) (k : Int) (hk : k < 0 ∨ d.kept.length < k ∨ 0 < d.waits.length) :
    Calls Try.prog 34 #[.pointer (some ⟨b, 0, none⟩), .int .i64 k] w fun e w' => e = .returned (.int .i64 2000) ∧ w = w' := by
  have h1 := h.c1
  have h2 := h.c2
  have h3 : w.cell? ⟨b, 3, none⟩ = some (.bool false) := by rw [h.c3, hd]
  have s1 := txt_size d.kept
  clear hd
  by_cases g1 : k < 0
  · clear hk
    go_enter Try.func34, Try.ntmps34
    go_wp2
    go_ret
    exact ⟨rfl, rfl⟩
  by_cases g2 : (d.kept.length : Int) < k
  · clear hk
    go_enter Try.func34, Try.ntmps34
    go_wp2
    go_ret
    exact ⟨rfl, rfl⟩
  have g3 : (!(txt d.waits).toList.isEmpty) = true := by
    rw [ByteArray.toList_eq]
    simp only [txt]
    rw [Bool.not_eq_true', List.isEmpty_eq_false_iff]
    intro e
    rw [e] at hk
    simp at hk
    omega
  clear hk
  go_enter Try.func34, Try.ntmps34
  go_wp2
  go_ret
  exact ⟨rfl, rfl⟩
theorem rcut_down {w : World} {b : Nat} {d : DiskD} (h : RefIs w b d) (hd : d.down = true) (k : Int) :
    Calls Try.prog 34 #[.pointer (some ⟨b, 0, none⟩), .int .i64 k] w fun e w' => e = .returned (.int .i64 2002) ∧ w = w' := by
  have h3 : w.cell? ⟨b, 3, none⟩ = some (.bool true) := by rw [h.c3, hd]
  clear hd
  go_enter Try.func34, Try.ntmps34
  go_wp2
  go_ret
  exact ⟨rfl, rfl⟩
end Go.Proofs.Ytheejjifcpjdbaa

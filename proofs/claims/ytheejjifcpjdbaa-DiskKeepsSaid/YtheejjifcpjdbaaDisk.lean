/- The contracts of package disk: each method tells what the document says of an abstract disk, and writes its own footprint alone. -/
import Derived.Test.YtheejjifcpjdbaaProg
import Derived.Test.YtheejjifcpjdbaaBase
namespace Go.Proofs.Ytheejjifcpjdbaa
set_option linter.unusedVariables false
set_option linter.unusedSimpArgs false
open Go.RowKit Go.Lib Go.Tt

theorem Try.info_u8 : (Try.prog.info? 5).map (fun i => (i.zero, i.size, i.bytes)) = some (some (.int .u8 0), 1, 1) := by kernel_rfl

/-- What a disk is: its size, whether it is down, what is kept, what waits. -/
structure DiskD where
  size : Int
  down : Bool
  kept : List UInt8
  waits : List UInt8

/-- Bytes as cells. -/
def bcs (l : List UInt8) : List Value := l.map fun b => .int .u8 b.toNat
theorem bcs_length (l : List UInt8) : (bcs l).length = l.length := by simp [bcs]
theorem bcs_app (a b : List UInt8) : bcs (a ++ b) = bcs a ++ bcs b := by simp [bcs]
theorem bcs_str (s : ByteArray) : bcs s.data.toList = byteCells s := rfl
theorem bcs_one (l : List UInt8) : ∀ u ∈ bcs l, u.oneCell' = true := by intro u hu; obtain ⟨b, _, rfl⟩ := List.mem_map.1 hu; rfl

set_option maxRecDepth 100000 in
/-- Bytes that are owned, turned into a text. -/
theorem conv_own {w : World} {B : Nat} {a : Option Addr} {c : Nat} {l : List UInt8} (h : w.ownsRow B 5 1 (.slice a l.length c) l.length (bcs l)) :
    (convert 47 9 (.slice a l.length c)).run Try.prog w = .ok (.string ⟨l.toArray⟩) w := by
  rcases own_cases h with ⟨rfl, h0, h1, h2⟩ | ⟨g, rfl, _, _⟩
  · have hl : l = [] := List.eq_nil_of_length_eq_zero h0
    subst hl
    exact run_convert_bytes_nil (P := Try.prog) w 47 5 Try.underlying47 Try.underlying5 0 c 9 Try.underlying9
  · have hc : ∀ i, i < l.length → w.cell? ⟨g, 0 + i, none⟩ = some (.int .u8 ((l.map fun b => (b.toNat : Int)).getD i 0)) := fun i hi => by
      rw [Nat.zero_add, h.cellAt i (by omega)]
      simp [bcs, List.getD, hi]
    have := run_convert_bytes_arg (P := Try.prog) w 47 5 Try.underlying47 Try.underlying5 g 0 l.length c (l.map fun b => (b.toNat : Int)) (by simp) hc 9 Try.underlying9
    rw [this]
    have e : (l.map ((fun n => UInt8.ofNat n.toNat) ∘ fun b => (b.toNat : Int))) = l := by
      conv => rhs; rw [← List.map_id l]
      exact List.map_congr_left fun b _ => by simp
    simp [strOfNums, e]

/-- A slice value that owns bytes, its block in the footprint. -/
structure Byt (w : World) (F : Nat → Prop) (v : Value) (l : List UInt8) : Prop where
  own : w.ownsRow 0 5 1 v l.length (bcs l)
  foot : ∀ g, v.ownBlock = some g → F g

theorem byt_nil (w : World) (F : Nat → Prop) : Byt w F (.slice none 0 0) [] := ⟨World.ownsRow_nil _ _ _ _, fun g hg => (by cases hg)⟩

structure DiskAt (w : World) (F : Nat → Prop) (b : Nat) (d : DiskD) (kp : Option Addr) (kc : Nat) (dp : Option Addr) (dc : Nat) : Prop where
  blk : w.heap[b]? = some (.cells #[.int .i64 d.size, .bool d.down, .slice kp d.kept.length kc, .slice dp d.waits.length dc] 94 (0, 0))
  foot : F b
  kO : Byt w F (.slice kp d.kept.length kc) d.kept
  wO : Byt w F (.slice dp d.waits.length dc) d.waits
  apart : ∀ g, (Value.slice kp d.kept.length kc).ownBlock = some g → (Value.slice dp d.waits.length dc).ownBlock ≠ some g
  s0 : 64 ≤ d.size
  s1 : d.size ≤ 65536
  room : (d.kept.length : Int) + d.waits.length ≤ d.size

theorem up_nil (w : World) : Calls Try.prog 58 #[.pointer none] w fun e w' => e = .returned (.int .i64 1) ∧ w = w' := by
  go_enter Try.func58, Try.ntmps58
  go_wp2
  go_ret
  exact ⟨rfl, rfl⟩
theorem up_down (b : Nat) (w : World) (h : w.cell? ⟨b, 1, none⟩ = some (.bool true)) : Calls Try.prog 58 #[.pointer (some ⟨b, 0, none⟩)] w fun e w' => e = .returned (.int .i64 2002) ∧ w = w' := by
  go_enter Try.func58, Try.ntmps58
  go_wp2
  go_ret
  exact ⟨rfl, rfl⟩
theorem up_up (b : Nat) (w : World) (h : w.cell? ⟨b, 1, none⟩ = some (.bool false)) : Calls Try.prog 58 #[.pointer (some ⟨b, 0, none⟩)] w fun e w' => e = .returned (.int .i64 0) ∧ w = w' := by
  go_enter Try.func58, Try.ntmps58
  go_wp2
  go_ret
  exact ⟨rfl, rfl⟩

section
variable {w : World} {F : Nat → Prop} {b : Nat} {d : DiskD} {kp : Option Addr} {kc : Nat} {dp : Option Addr} {dc : Nat}
theorem DiskAt.c0 (h : DiskAt w F b d kp kc dp dc) : w.cell? ⟨b, 0, none⟩ = some (.int .i64 d.size) := by simp [World.cell?, h.blk]
theorem DiskAt.c1 (h : DiskAt w F b d kp kc dp dc) : w.cell? ⟨b, 1, none⟩ = some (.bool d.down) := by simp [World.cell?, h.blk]
theorem DiskAt.c2 (h : DiskAt w F b d kp kc dp dc) : w.cell? ⟨b, 2, none⟩ = some (.slice kp d.kept.length kc) := by simp [World.cell?, h.blk]
theorem DiskAt.c3 (h : DiskAt w F b d kp kc dp dc) : w.cell? ⟨b, 3, none⟩ = some (.slice dp d.waits.length dc) := by simp [World.cell?, h.blk]
theorem DiskAt.fr (h : DiskAt w F b d kp kc dp dc) (j : Nat) : w.frozen? ⟨b, j, none⟩ = false := by simp [World.frozen?, h.blk]
theorem DiskAt.lt (h : DiskAt w F b d kp kc dp dc) : b < w.heap.size := lt_of_block h.blk
theorem DiskAt.kne (h : DiskAt w F b d kp kc dp dc) : (Value.slice kp d.kept.length kc).ownBlock ≠ some b := own_block_elem h.kO.own h.blk (by decide)
theorem DiskAt.dne (h : DiskAt w F b d kp kc dp dc) : (Value.slice dp d.waits.length dc).ownBlock ≠ some b := own_block_elem h.wO.own h.blk (by decide)
end

set_option maxRecDepth 100000 in
theorem room_up {w : World} {F : Nat → Prop} {b : Nat} {d : DiskD} {kp : Option Addr} {kc : Nat} {dp : Option Addr} {dc : Nat} (h : DiskAt w F b d kp kc dp dc) (hd : d.down = false) :
    Calls Try.prog 37 #[.pointer (some ⟨b, 0, none⟩)] w fun e w' => e = .returned (.int .i64 (d.size - d.kept.length - d.waits.length)) ∧ ∃ n, w' = w.drewN n := by
  have h0 := h.c0
  have h1 : w.cell? ⟨b, 1, none⟩ = some (.bool false) := by rw [h.c1, hd]
  have h2 := h.c2
  have h3 := h.c3
  have b0 := h.s0
  have b1 := h.s1
  have b2 := h.room
  clear hd
  go_enter Try.func37, Try.ntmps37
  go_wp2_with (go_at_call 58; refine (up_up _ _ h1).mono ?_; rintro e w' ⟨rfl, rfl⟩)
  go_quiet (fail)
  go_wp2
  go_ret
  exact ⟨rfl, _, rfl⟩
theorem room_down (b : Nat) (w : World) (h1 : w.cell? ⟨b, 1, none⟩ = some (.bool true)) :
    Calls Try.prog 37 #[.pointer (some ⟨b, 0, none⟩)] w fun e w' => e = .returned (.int .i64 0) ∧ w = w' := by
  go_enter Try.func37, Try.ntmps37
  go_wp2_with (go_at_call 58; refine (up_down _ _ h1).mono ?_; rintro e w' ⟨rfl, rfl⟩)
  go_ret
  exact ⟨rfl, rfl⟩

set_option maxRecDepth 100000 in
/-- Append, the walk. -/
theorem append_walk {w : World} {F : Nat → Prop} {b : Nat} {d : DiskD} {kp : Option Addr} {kc : Nat} {dp : Option Addr} {dc : Nat} (h : DiskAt w F b d kp kc dp dc) (hd : d.down = false) (s : ByteArray)
    (hfit : (s.size : Int) ≤ d.size - d.kept.length - d.waits.length) :
    Calls Try.prog 25 #[.pointer (some ⟨b, 0, none⟩), .string s] w fun e w' => e = .returned (.int .i64 0) ∧
      ∃ w0 a' c' w1, (∃ n, w0 = w.drewN n) ∧ w1.ownsRow 0 5 1 (.slice a' (d.waits.length + s.size) c') (d.waits.length + s.size) (bcs d.waits ++ byteCells s) ∧ w0.grownBy w1 (Value.slice dp d.waits.length dc).ownBlock ∧
      ((Value.slice a' (d.waits.length + s.size) c').ownBlock = (Value.slice dp d.waits.length dc).ownBlock ∨ (Value.slice a' (d.waits.length + s.size) c').ownBlock = some w0.heap.size) ∧
      w' = w1.setCell ⟨b, 3, none⟩ (.slice a' (d.waits.length + s.size) c') := by
  have h0 := h.c0
  have h1 : w.cell? ⟨b, 1, none⟩ = some (.bool false) := by rw [h.c1, hd]
  have h3 := h.c3
  have f3 := h.fr 3
  have b0 := h.s0
  have b1 := h.s1
  have b2 := h.room
  have hr := fun W (e : W = w) => by subst e; exact room_up h hd
  have HD := Lib.hid hd
  clear hd
  go_enter Try.func25, Try.ntmps25
  go_wp2_with (first | (go_at_call 58; refine (up_up _ _ h1).mono ?_; rintro e w' ⟨rfl, rfl⟩) | (go_at_call 37; refine (hr _ rfl).mono ?_; rintro e w' ⟨rfl, n, rfl⟩) |
    (at_builtin; refine wpList_app _ rfl (.tmp 20) (.tmp 21) 47 9 rfl 5 (.int .u8 0) 1 1 Try.underlying47 Try.info_u8 rfl (v := .slice dp d.waits.length dc) h.wO.own (Src.ofString _ Try.underlying9 s) rfl rfl ?c1 ?c2 (Nat.zero_le _) ?_))
  case c1 => unfold maxLen; omega
  case c2 => omega
  intro a' c' w1 o1 g1 at1
  have k1 : w1.cell? ⟨b, 3, none⟩ = some (.slice dp d.waits.length dc) := (grown_cell g1 (p := ⟨b, 3, none⟩) h.lt h.dne).trans h3
  have e1 : w1.frozen? ⟨b, 3, none⟩ = false := (grown_frozen g1 (p := ⟨b, 3, none⟩) h.lt h.dne).trans f3
  go_wp2
  go_ret
  exact ⟨rfl, _, a', c', w1, ⟨n, rfl⟩, o1, g1, at1, rfl⟩
end Go.Proofs.Ytheejjifcpjdbaa

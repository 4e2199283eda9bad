/- The contracts of package disk, as the document tells them: the other methods. -/
import Derived.Test.YtheejjifcpjdbaaDisk3
namespace Go.Proofs.Ytheejjifcpjdbaa
set_option linter.unusedVariables false
set_option linter.unusedSimpArgs false
open Go.RowKit Go.Lib Go.Tt

theorem new_ok (n : Int) (w : World) (h1 : 64 ≤ n) (h2 : n ≤ 65536) :
    Calls Try.prog 21 #[.int .i64 n] w fun e w' => e = .returned (.tuple #[.pointer (some ⟨w.heap.size, 0, none⟩), .int .i64 0]) ∧ DiskIs w' (fun k => k = w.heap.size) w.heap.size ⟨n, false, [], []⟩ ∧ Frm No w w' ∧ w'.heap.size = w.heap.size + 1 := by
  have key : Calls Try.prog 21 #[.int .i64 n] w fun e w' => e = .returned (.tuple #[.pointer (some ⟨w.heap.size, 0, none⟩), .int .i64 0]) ∧ w' = w.alloc (.cells #[.int .i64 n, .bool false, .slice none 0 0, .slice none 0 0] 94) := by
    go_enter Try.func21, Try.ntmps21
    go_wp2
    go_ret2
    exact ⟨rfl, rfl⟩
  refine key.mono ?_
  rintro e w' ⟨rfl, rfl⟩
  refine ⟨rfl, ⟨none, 0, none, 0, ?_, rfl, byt_nil _ _, byt_nil _ _, fun g hg => (by cases hg), h1, h2, by simp; omega⟩, Frm.alloc _ _ _, by simp⟩
  exact heap_alloc_new _ _
theorem new_no (n : Int) (w : World) (h : n < 64 ∨ 65536 < n) :
    Calls Try.prog 21 #[.int .i64 n] w fun e w' => e = .returned (.tuple #[.pointer none, .int .i64 2000]) ∧ w = w' := by
  rcases h with h | h
  · go_enter Try.func21, Try.ntmps21
    go_wp2
    go_ret2
    exact ⟨rfl, rfl⟩
  · have h' : ¬ n < 64 := by omega
    go_enter Try.func21, Try.ntmps21
    go_wp2
    go_ret2
    exact ⟨rfl, rfl⟩

set_option maxRecDepth 100000 in
theorem append_full {w : World} {F : Nat → Prop} {b : Nat} {d : DiskD} (h : DiskIs w F b d) (hd : d.down = false) (s : ByteArray) (hfit : d.size - d.kept.length - d.waits.length < (s.size : Int)) :
    Calls Try.prog 25 #[.pointer (some ⟨b, 0, none⟩), .string s] w fun e w' => e = .returned (.int .i64 2001) ∧ ∃ n, w' = w.drewN n := by
  obtain ⟨kp, kc, dp, dc, h⟩ := h
  have h1 : w.cell? ⟨b, 1, none⟩ = some (.bool false) := by rw [h.c1, hd]
  have hr := fun W (e : W = w) => by subst e; exact room_up h hd
  have HD := Lib.hid hd
  clear hd
  go_enter Try.func25, Try.ntmps25
  go_wp2_with (first | (go_at_call 58; refine (up_up _ _ h1).mono ?_; rintro e w' ⟨rfl, rfl⟩) | (go_at_call 37; refine (hr _ rfl).mono ?_; rintro e w' ⟨rfl, n, rfl⟩))
  go_ret
  exact ⟨rfl, _, rfl⟩
theorem append_down {w : World} {F : Nat → Prop} {b : Nat} {d : DiskD} (h : DiskIs w F b d) (hd : d.down = true) (s : ByteArray) :
    Calls Try.prog 25 #[.pointer (some ⟨b, 0, none⟩), .string s] w fun e w' => e = .returned (.int .i64 2002) ∧ w = w' := by
  obtain ⟨kp, kc, dp, dc, h⟩ := h
  have h1 : w.cell? ⟨b, 1, none⟩ = some (.bool true) := by rw [h.c1, hd]
  clear hd
  go_enter Try.func25, Try.ntmps25
  go_wp2_with (first | (go_at_call 58; refine (up_down _ _ h1).mono ?_; rintro e w' ⟨rfl, rfl⟩))
  go_ret
  exact ⟨rfl, rfl⟩

theorem sync_ok {w : World} {F : Nat → Prop} {b : Nat} {d : DiskD} (h : DiskIs w F b d) (hd : d.down = false) :
    Calls Try.prog 27 #[.pointer (some ⟨b, 0, none⟩)] w fun e w' => e = .returned (.int .i64 0) ∧ DiskIs w' (Nw F w w') b { d with kept := d.kept ++ d.waits, waits := [] } ∧ Frm F w w' := by
  obtain ⟨kp, kc, dp, dc, h⟩ := h
  refine (sync_walk h hd).mono ?_
  rintro e w' ⟨rfl, w0, a', c', w1, ⟨n, hn⟩, o1, g1, at1, w2, ⟨n2, rfl⟩, rfl⟩
  have f1 := grown_frm hn g1 h.kO.foot
  have hne := new_ne hn at1 h.kne h.lt
  have hb1 : w1.heap[b]? = some (.cells #[.int .i64 d.size, .bool d.down, .slice kp d.kept.length kc, .slice dp d.waits.length dc] 94 (0, 0)) := by
    subst hn; exact (Frm.of_grown g1).obj h.blk (fun e => h.kne e.symm)
  have hr := h.room
  refine ⟨rfl, ⟨a', c', none, 0, ?_, ?_, ⟨?_, ?_⟩, byt_nil _ _, fun g hg e => (by cases e), h.s0, h.s1, ?_⟩, (f1.trans (Frm.drewN _ _ _)).trans ((Frm.setCell _ _ _ h.foot).trans (Frm.setCell _ _ _ h.foot))⟩
  · have hb2 : (w1.drewN n2).heap[b]? = _ := hb1
    rw [obj_setCell (obj_setCell hb2 _)]; simp
  · exact .inl h.foot
  · have := own_setCell (own_setCell (show (w1.drewN n2).ownsRow _ _ _ _ _ _ from o1) hne (.slice a' (d.kept.length + d.waits.length) c') (i := 2)) hne (.slice none 0 0) (i := 3)
    rw [← bcs_app] at this
    simpa using this
  · intro g hg
    have := new_foot hn o1 at1 h.kO.foot g (by simpa using hg)
    simpa [Nw] using this
  · simp; omega
theorem sync_down {w : World} {F : Nat → Prop} {b : Nat} {d : DiskD} (h : DiskIs w F b d) (hd : d.down = true) :
    Calls Try.prog 27 #[.pointer (some ⟨b, 0, none⟩)] w fun e w' => e = .returned (.int .i64 2002) ∧ w = w' := by
  obtain ⟨kp, kc, dp, dc, h⟩ := h
  have h1 : w.cell? ⟨b, 1, none⟩ = some (.bool true) := by rw [h.c1, hd]
  clear hd
  go_enter Try.func27, Try.ntmps27
  go_wp2_with (first | (go_at_call 58; refine (up_down _ _ h1).mono ?_; rintro e w' ⟨rfl, rfl⟩))
  go_ret
  exact ⟨rfl, rfl⟩

theorem crash_ok {w : World} {F : Nat → Prop} {b : Nat} {d : DiskD} (h : DiskIs w F b d) (hd : d.down = false) (keep : Int) (hk : 0 ≤ keep) :
    Calls Try.prog 29 #[.pointer (some ⟨b, 0, none⟩), .int .i64 keep] w fun e w' => e = .returned (.int .i64 0) ∧
      DiskIs w' (Nw F w w') b { d with kept := d.kept ++ d.waits.take keep.toNat, waits := [], down := true } ∧ Frm F w w' := by
  obtain ⟨kp, kc, dp, dc, h⟩ := h
  obtain ⟨m, hm⟩ : ∃ m : Nat, (m : Int) = min keep d.waits.length := ⟨(min keep d.waits.length).toNat, by omega⟩
  have hml : (d.waits.take m).length = m := by rw [List.length_take]; omega
  have htk : d.waits.take keep.toNat = d.waits.take m := by
    rcases Int.le_total keep d.waits.length with hh | hh
    · rw [show keep.toNat = m by omega]
    · rw [List.take_of_length_le (by omega), List.take_of_length_le (by omega)]
  refine (crash_walk h hd keep hk m hm).mono ?_
  rintro e w' ⟨rfl, w0, a', c', w1, ⟨n, hn⟩, o1, g1, at1, rfl⟩
  have f1 := grown_frm hn g1 h.kO.foot
  have hne := new_ne hn at1 h.kne h.lt
  have hb1 : w1.heap[b]? = some (.cells #[.int .i64 d.size, .bool d.down, .slice kp d.kept.length kc, .slice dp d.waits.length dc] 94 (0, 0)) := by
    subst hn; exact (Frm.of_grown g1).obj h.blk (fun e => h.kne e.symm)
  have hr := h.room
  rw [htk]
  refine ⟨rfl, ⟨a', c', none, 0, ?_, ?_, ⟨?_, ?_⟩, byt_nil _ _, fun g hg e => (by cases e), h.s0, h.s1, ?_⟩, f1.trans ((Frm.setCell _ _ _ h.foot).trans ((Frm.setCell _ _ _ h.foot).trans (Frm.setCell _ _ _ h.foot)))⟩
  · rw [obj_setCell (obj_setCell (obj_setCell hb1 _) _)]; simp [-List.length_take, hml]
  · exact .inl h.foot
  · have := own_setCell (own_setCell (own_setCell o1 hne (.slice a' (d.kept.length + m) c') (i := 2)) hne (.slice none 0 0) (i := 3)) hne (.bool true) (i := 1)
    rw [← bcs_app] at this
    simpa [-List.length_take, hml] using this
  · intro g hg
    have := new_foot hn o1 at1 h.kO.foot g (by simpa [-List.length_take, hml] using hg)
    simpa [Nw] using this
  · simp [-List.length_take, hml]; omega
theorem crash_neg {w : World} {F : Nat → Prop} {b : Nat} {d : DiskD} (h : DiskIs w F b d) (hd : d.down = false) (keep : Int) (hk : keep < 0) :
    Calls Try.prog 29 #[.pointer (some ⟨b, 0, none⟩), .int .i64 keep] w fun e w' => e = .returned (.int .i64 2000) ∧ w = w' := by
  obtain ⟨kp, kc, dp, dc, h⟩ := h
  have h1 : w.cell? ⟨b, 1, none⟩ = some (.bool false) := by rw [h.c1, hd]
  clear hd
  go_enter Try.func29, Try.ntmps29
  go_wp2_with (first | (go_at_call 58; refine (up_up _ _ h1).mono ?_; rintro e w' ⟨rfl, rfl⟩))
  go_ret
  exact ⟨rfl, rfl⟩
theorem crash_down {w : World} {F : Nat → Prop} {b : Nat} {d : DiskD} (h : DiskIs w F b d) (hd : d.down = true) (keep : Int) :
    Calls Try.prog 29 #[.pointer (some ⟨b, 0, none⟩), .int .i64 keep] w fun e w' => e = .returned (.int .i64 2002) ∧ w = w' := by
  obtain ⟨kp, kc, dp, dc, h⟩ := h
  have h1 : w.cell? ⟨b, 1, none⟩ = some (.bool true) := by rw [h.c1, hd]
  clear hd
  go_enter Try.func29, Try.ntmps29
  go_wp2_with (first | (go_at_call 58; refine (up_down _ _ h1).mono ?_; rintro e w' ⟨rfl, rfl⟩))
  go_ret
  exact ⟨rfl, rfl⟩

theorem restart_down {w : World} {F : Nat → Prop} {b : Nat} {d : DiskD} (h : DiskIs w F b d) (hd : d.down = true) :
    Calls Try.prog 31 #[.pointer (some ⟨b, 0, none⟩)] w fun e w' => e = .returned (.int .i64 0) ∧ DiskIs w' F b { d with down := false } ∧ Frm F w w' ∧ w'.heap.size = w.heap.size := by
  obtain ⟨kp, kc, dp, dc, h⟩ := h
  have key : Calls Try.prog 31 #[.pointer (some ⟨b, 0, none⟩)] w fun e w' => e = .returned (.int .i64 0) ∧ w' = w.setCell ⟨b, 1, none⟩ (.bool false) := by
    have h1 : w.cell? ⟨b, 1, none⟩ = some (.bool true) := by rw [h.c1, hd]
    have f1 := h.fr 1
    clear hd
    go_enter Try.func31, Try.ntmps31
    go_wp2
    go_ret
    exact ⟨rfl, rfl⟩
  refine key.mono ?_
  rintro e w' ⟨rfl, rfl⟩
  refine ⟨rfl, ⟨kp, kc, dp, dc, ?_, h.foot, ⟨own_setCell h.kO.own h.kne _, h.kO.foot⟩, ⟨own_setCell h.wO.own h.dne _, h.wO.foot⟩, h.apart, h.s0, h.s1, h.room⟩, Frm.setCell _ _ _ h.foot, by simp⟩
  rw [obj_setCell h.blk]; simp
theorem restart_up {w : World} {F : Nat → Prop} {b : Nat} {d : DiskD} (h : DiskIs w F b d) (hd : d.down = false) :
    Calls Try.prog 31 #[.pointer (some ⟨b, 0, none⟩)] w fun e w' => e = .returned (.int .i64 2000) ∧ w = w' := by
  obtain ⟨kp, kc, dp, dc, h⟩ := h
  have h1 : w.cell? ⟨b, 1, none⟩ = some (.bool false) := by rw [h.c1, hd]
  clear hd
  go_enter Try.func31, Try.ntmps31
  go_wp2
  go_ret
  exact ⟨rfl, rfl⟩

theorem bytes_up {w : World} {F : Nat → Prop} {b : Nat} {d : DiskD} (h : DiskIs w F b d) (hd : d.down = false) :
    Calls Try.prog 35 #[.pointer (some ⟨b, 0, none⟩)] w fun e w' => e = .returned (.tuple #[.string ⟨d.kept.toArray⟩, .int .i64 0]) ∧ w = w' := by
  obtain ⟨kp, kc, dp, dc, h⟩ := h
  have h1 : w.cell? ⟨b, 1, none⟩ = some (.bool false) := by rw [h.c1, hd]
  have h2 := h.c2
  have hc := conv_own h.kO.own
  clear hd
  go_enter Try.func35, Try.ntmps35
  go_wp2_with (first | (go_at_call 58; refine (up_up _ _ h1).mono ?_; rintro e w' ⟨rfl, rfl⟩))
  go_ret2
  exact ⟨rfl, rfl⟩
theorem bytes_down {w : World} {F : Nat → Prop} {b : Nat} {d : DiskD} (h : DiskIs w F b d) (hd : d.down = true) :
    Calls Try.prog 35 #[.pointer (some ⟨b, 0, none⟩)] w fun e w' => e = .returned (.tuple #[.string ByteArray.empty, .int .i64 2002]) ∧ w = w' := by
  obtain ⟨kp, kc, dp, dc, h⟩ := h
  have h1 : w.cell? ⟨b, 1, none⟩ = some (.bool true) := by rw [h.c1, hd]
  clear hd
  go_enter Try.func35, Try.ntmps35
  go_wp2_with (first | (go_at_call 58; refine (up_down _ _ h1).mono ?_; rintro e w' ⟨rfl, rfl⟩))
  go_ret2
  exact ⟨rfl, rfl⟩

theorem room_is {w : World} {F : Nat → Prop} {b : Nat} {d : DiskD} (h : DiskIs w F b d) :
    Calls Try.prog 37 #[.pointer (some ⟨b, 0, none⟩)] w fun e w' => e = .returned (.int .i64 (if d.down then 0 else d.size - d.kept.length - d.waits.length)) ∧ ∃ n, w' = w.drewN n := by
  obtain ⟨kp, kc, dp, dc, h⟩ := h
  cases hd : d.down with
  | false => exact (room_up h hd).mono fun e w' h => h
  | true => exact (room_down b w (by rw [h.c1, hd])).mono fun e w' h => ⟨h.1, 0, h.2.symm⟩
end Go.Proofs.Ytheejjifcpjdbaa

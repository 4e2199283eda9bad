/- A cell, a dot that came in, opened. -/
import Derived.Test.YtheejjifcpjdbaaOpen9
import Derived.Test.YtheejjifcpjdbaaCells2
namespace Go.Proofs.Ytheejjifcpjdbaa
set_option linter.unusedVariables false
set_option linter.unusedSimpArgs false
open Go.RowKit Go.Lib Go.Tt Go.WideShapes
set_option maxRecDepth 10000
theorem c_int : Try.prog.cellsOf 3 = 1 := by kernel_rfl
theorem c_str : Try.prog.cellsOf 9 = 1 := by kernel_rfl
theorem c_bool : Try.prog.cellsOf 4 = 1 := by kernel_rfl
theorem c_dot : Try.prog.cellsOf 61 = 2 := by kernel_rfl
theorem c_stamp : Try.prog.cellsOf 53 = 2 := by kernel_rfl
theorem c_pair : Try.prog.cellsOf 55 = 2 := by kernel_rfl
theorem c_en : Try.prog.cellsOf 90 = 3 := by kernel_rfl
theorem c_el : Try.prog.cellsOf 111 = 5 := by kernel_rfl
theorem c_cell : Try.prog.cellsOf 59 = 10 := by kernel_rfl
theorem c_ens : Try.prog.cellsOf 56 = 1 := by kernel_rfl
theorem c_els : Try.prog.cellsOf 57 = 1 := by kernel_rfl
theorem c_ints : Try.prog.cellsOf 49 = 1 := by kernel_rfl
theorem rd_int {w : World} {x : Value} (h : Rd Try.prog w 3 [x]) : ∃ n, x = .int .i64 n := by
  obtain ⟨n, h, -⟩ := h.int Try.underlying3
  exact ⟨n, by simpa using h⟩
theorem rd_str {w : World} {x : Value} (h : Rd Try.prog w 9 [x]) : ∃ s, x = .string s := by
  obtain ⟨s, h, -⟩ := h.string Try.underlying9
  exact ⟨s, by simpa using h⟩
theorem rd_bool {w : World} {x : Value} (h : Rd Try.prog w 4 [x]) : ∃ b, x = .bool b := by
  obtain ⟨b, h⟩ := h.bool Try.underlying4
  exact ⟨b, by simpa using h⟩
theorem rd_dot {w : World} {cs : List Value} (h : Rd Try.prog w 61 cs) : ∃ d : Dt, eDt.f d = cs := by
  obtain ⟨hl, hf⟩ := h.struct Try.underlying61
  rw [c_dot] at hl
  match cs, hl with
  | [x, y], _ =>
    have h0 := hf _ (List.mem_cons_self)
    have h1 := hf _ (List.mem_cons_of_mem _ List.mem_cons_self)
    simp only [c_int] at h0 h1
    obtain ⟨a, rfl⟩ := rd_int h0
    obtain ⟨b, rfl⟩ := rd_int h1
    exact ⟨(a, b), rfl⟩
theorem rd_two {w : World} {t : TypeId} {cs : List Value} (h : Rd Try.prog w t cs) (ht : t = 53 ∨ t = 55) : ∃ a b : Int, cs = [.int .i64 a, .int .i64 b] := by
  rcases ht with rfl | rfl
  · obtain ⟨hl, hf⟩ := h.struct Try.underlying53
    rw [c_stamp] at hl
    match cs, hl with
    | [x, y], _ =>
      have h0 := hf _ (List.mem_cons_self)
      have h1 := hf _ (List.mem_cons_of_mem _ List.mem_cons_self)
      simp only [c_int] at h0 h1
      obtain ⟨a, rfl⟩ := rd_int h0
      obtain ⟨b, rfl⟩ := rd_int h1
      exact ⟨a, b, rfl⟩
  · obtain ⟨hl, hf⟩ := h.struct Try.underlying55
    rw [c_pair] at hl
    match cs, hl with
    | [x, y], _ =>
      have h0 := hf _ (List.mem_cons_self)
      have h1 := hf _ (List.mem_cons_of_mem _ List.mem_cons_self)
      simp only [c_int] at h0 h1
      obtain ⟨a, rfl⟩ := rd_int h0
      obtain ⟨b, rfl⟩ := rd_int h1
      exact ⟨a, b, rfl⟩
theorem rd_en {w : World} {cs : List Value} (h : Rd Try.prog w 90 cs) : ∃ x : En, eEn.f x = cs := by
  obtain ⟨hl, hf⟩ := h.struct Try.underlying90
  rw [c_en] at hl
  match cs, hl with
  | [x, y, z], _ =>
    have h0 := hf _ (List.mem_cons_self)
    have h1 := hf _ (List.mem_cons_of_mem _ List.mem_cons_self)
    simp only [c_dot, c_str] at h0 h1
    obtain ⟨d, hd⟩ := rd_dot h0
    obtain ⟨s, rfl⟩ := rd_str h1
    have e : eDt.f d = [x, y] := hd
    simp only [eDt, List.cons.injEq, and_true] at e
    exact ⟨(d.1, d.2, s), by rw [← e.1, ← e.2]; rfl⟩
theorem rd_el {w : World} {cs : List Value} (h : Rd Try.prog w 111 cs) : ∃ x : El, eEl.f x = cs := by
  obtain ⟨hl, hf⟩ := h.struct Try.underlying111
  rw [c_el] at hl
  match cs, hl with
  | [x, y, z, u, t], _ =>
    have h0 := hf _ (List.mem_cons_self)
    have h1 := hf _ (List.mem_cons_of_mem _ List.mem_cons_self)
    have h2 := hf _ (List.mem_cons_of_mem _ (List.mem_cons_of_mem _ List.mem_cons_self))
    have h3 := hf _ (List.mem_cons_of_mem _ (List.mem_cons_of_mem _ (List.mem_cons_of_mem _ List.mem_cons_self)))
    simp only [c_dot, c_int, c_str, c_bool] at h0 h1 h2 h3
    obtain ⟨d, hd⟩ := rd_dot h0
    obtain ⟨n, rfl⟩ := rd_int h1
    obtain ⟨s, rfl⟩ := rd_str h2
    obtain ⟨b, rfl⟩ := rd_bool h3
    have e : eDt.f d = [x, y] := hd
    simp only [eDt, List.cons.injEq, and_true] at e
    exact ⟨(d.1, d.2, n, s, b), by rw [← e.1, ← e.2]; rfl⟩
/-- A slice's value that reads. -/
theorem rd_sl {w : World} {t e : TypeId} {x : Value} (ht : Try.prog.underlying t = some (.slice e)) (h : Rd Try.prog w t [x]) : ∃ a n c, x = .slice a n c := by
  rcases h.slice ht with h | ⟨a, n, c, h, -⟩
  · exact ⟨none, 0, 0, by simpa using h⟩
  · exact ⟨some a, n, c, by simpa using h⟩
theorem cell_of {base : Nat} {w : World} {v : Value} (ok : Value.okWide Try.prog w .any base 59 v) (h : Rd Try.prog w 59 v.cells.toList) : ∃ c ve vl vs, v = cval c ve vl vs ∧ CellR w c ve vl vs ∧ CellB c := by
  obtain ⟨cs, rfl, hsz⟩ := okWide_struct Try.underlying59 ok
  obtain ⟨hl, hf⟩ := h.struct Try.underlying59
  have hcs : (Value.agg cs).cells.toList = cs.toList := rfl
  rw [hcs, c_cell] at hl
  simp only [hcs] at hf
  obtain ⟨l, rfl⟩ : ∃ l : List Value, cs = l.toArray := ⟨cs.toList, by simp⟩
  simp only [List.toList_toArray] at hf hl
  match l, hl with
  | [x0, x1, x2, x3, x4, x5, x6, x7, x8, x9], _ =>
    have h0 := hf _ List.mem_cons_self
    have h1 := hf _ (List.mem_cons_of_mem _ List.mem_cons_self)
    have h2 := hf _ (List.mem_cons_of_mem _ (List.mem_cons_of_mem _ List.mem_cons_self))
    have h3 := hf _ (List.mem_cons_of_mem _ (List.mem_cons_of_mem _ (List.mem_cons_of_mem _ List.mem_cons_self)))
    have h4 := hf _ (List.mem_cons_of_mem _ (List.mem_cons_of_mem _ (List.mem_cons_of_mem _ (List.mem_cons_of_mem _ List.mem_cons_self))))
    have h5 := hf _ (List.mem_cons_of_mem _ (List.mem_cons_of_mem _ (List.mem_cons_of_mem _ (List.mem_cons_of_mem _ (List.mem_cons_of_mem _ List.mem_cons_self)))))
    have h6 := hf _ (List.mem_cons_of_mem _ (List.mem_cons_of_mem _ (List.mem_cons_of_mem _ (List.mem_cons_of_mem _ (List.mem_cons_of_mem _ (List.mem_cons_of_mem _ List.mem_cons_self))))))
    have h7 := hf _ (List.mem_cons_of_mem _ (List.mem_cons_of_mem _ (List.mem_cons_of_mem _ (List.mem_cons_of_mem _ (List.mem_cons_of_mem _ (List.mem_cons_of_mem _ (List.mem_cons_of_mem _ List.mem_cons_self)))))))
    simp only [c_int, c_bool, c_stamp, c_str, c_pair, c_ens, c_els, c_ints] at h0 h1 h2 h3 h4 h5 h6 h7
    clear hf hsz h ok
    obtain ⟨k, rfl⟩ := rd_int h0
    obtain ⟨b, rfl⟩ := rd_bool h1
    obtain ⟨s1, s2, hs⟩ := rd_two h2 (.inl rfl)
    obtain ⟨s, rfl⟩ := rd_str h3
    obtain ⟨n1, n2, hn⟩ := rd_two h4 (.inr rfl)
    have hs' : [x2, x3] = [Value.int .i64 s1, .int .i64 s2] := hs
    have hn' : [x5, x6] = [Value.int .i64 n1, .int .i64 n2] := hn
    simp only [List.cons.injEq, and_true] at hs' hn'
    obtain ⟨rfl, rfl⟩ := hs'
    obtain ⟨rfl, rfl⟩ := hn'
    obtain ⟨E, hE, bE⟩ := rdS_of (P := Try.prog) (E := eEn) (v := x7) (cs := [x7]) (by obtain ⟨a, n, c, rfl⟩ := rd_sl Try.underlying56 h5; rfl) (rd_sl Try.underlying56 h5) Try.underlying56 c_en (fun _ h => rd_en h) h5
    obtain ⟨M, hM, bM⟩ := rdS_of (P := Try.prog) (E := eEl) (v := x8) (cs := [x8]) (by obtain ⟨a, n, c, rfl⟩ := rd_sl Try.underlying57 h6; rfl) (rd_sl Try.underlying57 h6) Try.underlying57 c_el (fun _ h => rd_el h) h6
    obtain ⟨I, hI, bI⟩ := rdS_of (P := Try.prog) (E := eInt) (v := x9) (cs := [x9]) (by obtain ⟨a, n, c, rfl⟩ := rd_sl Try.underlying49 h7; rfl) (rd_sl Try.underlying49 h7) Try.underlying49 c_int (fun cs h => by
      obtain ⟨n, rfl, -⟩ := h.int Try.underlying3
      exact ⟨n, rfl⟩) h7
    rw [show Try.prog.bytesOf 90 = 32 by kernel_rfl] at bE
    rw [show Try.prog.bytesOf 111 = 48 by kernel_rfl] at bM
    rw [show Try.prog.bytesOf 3 = 8 by kernel_rfl] at bI
    exact ⟨⟨k, b, (s1, s2), s, (n1, n2), E, M, I⟩, x7, x8, x9, rfl, ⟨hE, hM, hI⟩, ⟨bE, bM, bI⟩⟩
theorem dot_of {base : Nat} {w : World} {v : Value} (ok : Value.okWide Try.prog w .any base 61 v) (h : Rd Try.prog w 61 v.cells.toList) : ∃ d : Dt, v = .agg #[.int .i64 d.1, .int .i64 d.2] := by
  obtain ⟨cs, rfl, hsz⟩ := okWide_struct Try.underlying61 ok
  obtain ⟨d, hd⟩ := rd_dot h
  have e : eDt.f d = cs.toList := hd
  exact ⟨d, by rw [show cs = cs.toList.toArray by simp, ← e]; rfl⟩
theorem dots_of {base : Nat} {w : World} {v : Value} (ok : Value.okWide Try.prog w .any base 62 v) (h : Rd Try.prog w 62 v.cells.toList) : ∃ l, RdS w eDt v l ∧ l.length * 16 ≤ reachBytes := by
  obtain ⟨a, n, c, rfl⟩ := okWide_slice Try.underlying62 ok
  obtain ⟨l, hl, hb⟩ := rdS_of (E := eDt) rfl ⟨a, n, c, rfl⟩ Try.underlying62 c_dot (fun _ h => rd_dot h) h
  rw [show Try.prog.bytesOf 61 = 16 by kernel_rfl] at hb
  exact ⟨l, hl, hb⟩
end Go.Proofs.Ytheejjifcpjdbaa

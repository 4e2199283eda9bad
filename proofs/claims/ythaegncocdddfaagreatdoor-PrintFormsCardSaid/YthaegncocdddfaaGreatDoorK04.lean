/- Merged: DocD. -/
import Derived.Test.YthaegncocdddfaaGreatDoorProg
import Derived.Test.YthaegncocdddfaaGreatDoorK03
/- Documents in memory: how their parts are told by cells; what reads, what is owned. -/
namespace Go.Proofs.YthaegncocdddfaaGreatDoor
set_option linter.unusedVariables false
set_option linter.unusedSimpArgs false
set_option linter.unusedVariables false
set_option linter.unusedSimpArgs false
open Go.RowKit Go.Lib Go.Tt
def eTk : Enc Tk := ⟨4, fun t => [.int .i64 t.kind, .string t.text, .int .i64 t.int, .int .i64 t.pos], fun _ => rfl, fun x u hu => by simp at hu; rcases hu with rfl | rfl | rfl | rfl <;> rfl, by decide⟩
def eAr : Enc Ar := ⟨4, fun t => [.string t.name, .int .i64 t.val.kind, .int .i64 t.val.int, .string t.val.text], fun _ => rfl, fun x u hu => by simp at hu; rcases hu with rfl | rfl | rfl | rfl <;> rfl, by decide⟩
def eFi : Enc Fi := ⟨4, fun t => [.bool t.skip, .int .i64 t.val.kind, .int .i64 t.val.int, .string t.val.text], fun _ => rfl, fun x u hu => by simp at hu; rcases hu with rfl | rfl | rfl | rfl <;> rfl, by decide⟩
def eDc : Enc Dc := ⟨2, fun t => [.string t.name, .int .i64 t.kind], fun _ => rfl, fun x u hu => by simp at hu; rcases hu with rfl | rfl <;> rfl, by decide⟩
/-- A slice's three parts. -/
structure Sh where
  p : Option Addr
  n : Nat
  c : Nat
def Sh.v (s : Sh) : Value := .slice s.p s.n s.c
/-- A selection's cells. -/
structure SelC where
  sp : Bool
  al : ByteArray
  nm : ByteArray
  a : Sh
  i : Sh
  s : Sh
def SelC.l (r : SelC) : List Value := [.bool r.sp, .string r.al, .string r.nm, .slice r.a.p r.a.n r.a.c, .slice r.i.p r.i.n r.i.c, .slice r.s.p r.s.n r.s.c]
def eSel : Enc SelC := ⟨6, SelC.l, fun _ => rfl, fun x u hu => by simp [SelC.l] at hu; rcases hu with rfl | rfl | rfl | rfl | rfl | rfl <;> rfl, by decide⟩
/-- A fragment's cells. -/
structure FgC where
  name : ByteArray
  on : ByteArray
  s : Sh
def FgC.l (r : FgC) : List Value := [.string r.name, .string r.on, .slice r.s.p r.s.n r.s.c]
def eFg : Enc FgC := ⟨3, FgC.l, fun _ => rfl, fun x u hu => by simp [FgC.l] at hu; rcases hu with rfl | rfl | rfl <;> rfl, by decide⟩
theorem i_tk : (Tryz.prog.info? 104).map (fun i => (i.zero, i.size, i.bytes)) = some (some (.agg #[.int .i64 0, .string ⟨#[]⟩, .int .i64 0, .int .i64 0]), eTk.k, 40) := by kernel_rfl
theorem i_ar : (Tryz.prog.info? 57).map (fun i => (i.zero, i.size, i.bytes)) = some (some (.agg #[.string ⟨#[]⟩, .int .i64 0, .int .i64 0, .string ⟨#[]⟩]), eAr.k, 48) := by kernel_rfl
theorem i_fi : (Tryz.prog.info? 60).map (fun i => (i.zero, i.size, i.bytes)) = some (some (.agg #[.bool false, .int .i64 0, .int .i64 0, .string ⟨#[]⟩]), eFi.k, 40) := by kernel_rfl
theorem i_dc : (Tryz.prog.info? 62).map (fun i => (i.zero, i.size, i.bytes)) = some (some (.agg #[.string ⟨#[]⟩, .int .i64 0]), eDc.k, 24) := by kernel_rfl
theorem i_sel : (Tryz.prog.info? 51).map (fun i => (i.zero, i.size, i.bytes)) = some (some (.agg #[.bool false, .string ⟨#[]⟩, .string ⟨#[]⟩, .slice none 0 0, .slice none 0 0, .slice none 0 0]), eSel.k, 112) := by kernel_rfl
theorem i_fg : (Tryz.prog.info? 53).map (fun i => (i.zero, i.size, i.bytes)) = some (some (.agg #[.string ⟨#[]⟩, .string ⟨#[]⟩, .slice none 0 0]), eFg.k, 56) := by kernel_rfl
/-- A slice that reads as a list, its block in F. -/
def RdB {α : Type} (w : World) (F : Nat → Prop) (E : Enc α) (v : Value) (l : List α) : Prop := RdS w E v l ∧ ∀ g, sblk v = some g → F g
theorem RdB.frm {α : Type} {F G : Nat → Prop} {w w' : World} {E : Enc α} {v : Value} {l : List α} (h : RdB w F E v l) (f : Frm G w w') (hd : ∀ k, k < w.heap.size → F k → ¬ G k) : RdB w' F E v l :=
  ⟨h.1.frm f fun g hg => hd g (h.1.blk_lt hg) (h.2 g hg), h.2⟩
theorem RdB.mono {α : Type} {F G : Nat → Prop} {w : World} {E : Enc α} {v : Value} {l : List α} (h : RdB w F E v l) (hs : ∀ k, k < w.heap.size → F k → G k) : RdB w G E v l :=
  ⟨h.1, fun g hg => hs g (h.1.blk_lt hg) (h.2 g hg)⟩
mutual
/-- A selection's cells read as a selection. -/
def RdSel (w : World) (F : Nat → Prop) : SelC → Sl → Prop
  | r, .mk sp al nm args ifs sels => (r.sp = sp ∧ r.al = al ∧ r.nm = nm) ∧ RdB w F eAr (.slice r.a.p r.a.n r.a.c) args ∧ RdB w F eFi (.slice r.i.p r.i.n r.i.c) ifs ∧ ∃ rs, RdB w F eSel (.slice r.s.p r.s.n r.s.c) rs ∧ RdAll w F rs sels
def RdAll (w : World) (F : Nat → Prop) : List SelC → List Sl → Prop
  | rs, [] => rs = []
  | rs, s :: ss => ∃ r rt, rs = r :: rt ∧ RdSel w F r s ∧ RdAll w F rt ss
end
/-- A set reads. -/
def RdSs (w : World) (F : Nat → Prop) (v : Value) (ss : List Sl) : Prop := ∃ rs, RdB w F eSel v rs ∧ RdAll w F rs ss
mutual
theorem RdSel.frm {F G : Nat → Prop} {w w' : World} (f : Frm G w w') (hd : ∀ k, k < w.heap.size → F k → ¬ G k) : ∀ {s : Sl} {r : SelC}, RdSel w F r s → RdSel w' F r s
  | .mk sp al nm args ifs sels, r, h => by
    unfold RdSel at h ⊢
    obtain ⟨h1, h2, h3, rs, h4, h5⟩ := h
    exact ⟨h1, h2.frm f hd, h3.frm f hd, rs, h4.frm f hd, RdAll.frm f hd h5⟩
theorem RdAll.frm {F G : Nat → Prop} {w w' : World} (f : Frm G w w') (hd : ∀ k, k < w.heap.size → F k → ¬ G k) : ∀ {ss : List Sl} {rs : List SelC}, RdAll w F rs ss → RdAll w' F rs ss
  | [], rs, h => by unfold RdAll at h ⊢; exact h
  | s :: ss, rs, h => by
    unfold RdAll at h ⊢
    obtain ⟨r, rt, h1, h2, h3⟩ := h
    exact ⟨r, rt, h1, RdSel.frm f hd h2, RdAll.frm f hd h3⟩
end
mutual
theorem RdSel.mono {F G : Nat → Prop} {w : World} (hs : ∀ k, k < w.heap.size → F k → G k) : ∀ {s : Sl} {r : SelC}, RdSel w F r s → RdSel w G r s
  | .mk sp al nm args ifs sels, r, h => by
    unfold RdSel at h ⊢
    obtain ⟨h1, h2, h3, rs, h4, h5⟩ := h
    exact ⟨h1, h2.mono hs, h3.mono hs, rs, h4.mono hs, RdAll.mono hs h5⟩
theorem RdAll.mono {F G : Nat → Prop} {w : World} (hs : ∀ k, k < w.heap.size → F k → G k) : ∀ {ss : List Sl} {rs : List SelC}, RdAll w F rs ss → RdAll w G rs ss
  | [], rs, h => by unfold RdAll at h ⊢; exact h
  | s :: ss, rs, h => by
    unfold RdAll at h ⊢
    obtain ⟨r, rt, h1, h2, h3⟩ := h
    exact ⟨r, rt, h1, RdSel.mono hs h2, RdAll.mono hs h3⟩
end
theorem RdAll.len {w : World} {F : Nat → Prop} : ∀ {ss : List Sl} {rs : List SelC}, RdAll w F rs ss → rs.length = ss.length
  | [], rs, h => by unfold RdAll at h; rw [h]; rfl
  | s :: ss, rs, h => by
    unfold RdAll at h
    obtain ⟨r, rt, rfl, _, h3⟩ := h
    simp [h3.len]
theorem RdAll.at {w : World} {F : Nat → Prop} : ∀ {ss : List Sl} {rs : List SelC}, RdAll w F rs ss → ∀ (i : Nat) (h : i < ss.length) (h' : i < rs.length), RdSel w F rs[i] ss[i]
  | [], rs, h, i, hi, _ => by simp at hi
  | s :: ss, rs, h, i, hi, hi' => by
    unfold RdAll at h
    obtain ⟨r, rt, rfl, h2, h3⟩ := h
    cases i with
    | zero => exact h2
    | succ i => exact h3.at i (by simpa using hi) (by simpa using hi')
theorem RdSs.frm {F G : Nat → Prop} {w w' : World} {v : Value} {ss : List Sl} (h : RdSs w F v ss) (f : Frm G w w') (hd : ∀ k, k < w.heap.size → F k → ¬ G k) : RdSs w' F v ss := by
  obtain ⟨rs, h1, h2⟩ := h; exact ⟨rs, h1.frm f hd, RdAll.frm f hd h2⟩
theorem RdSs.mono {F G : Nat → Prop} {w : World} {v : Value} {ss : List Sl} (h : RdSs w F v ss) (hs : ∀ k, k < w.heap.size → F k → G k) : RdSs w G v ss := by
  obtain ⟨rs, h1, h2⟩ := h; exact ⟨rs, h1.mono hs, RdAll.mono hs h2⟩
/-! ## What is owned -/
mutual
/-- A selection of the call's own: each of its rows in a part of F of its own. -/
def OwSel (w : World) : (Nat → Prop) → SelC → Sl → Prop
  | F, r, .mk sp al nm args ifs sels => (r.sp = sp ∧ r.al = al ∧ r.nm = nm) ∧ ∃ A I S G : Nat → Prop, (∀ k, A k → F k ∧ ¬ I k ∧ ¬ S k) ∧ (∀ k, I k → F k ∧ ¬ S k) ∧ (∀ k, S k → F k) ∧ (∀ k, G k → S k) ∧
      Ow w A 57 eAr (.slice r.a.p r.a.n r.a.c) args ∧ Ow w I 60 eFi (.slice r.i.p r.i.n r.i.c) ifs ∧ ∃ rs, Ow w G 51 eSel (.slice r.s.p r.s.n r.s.c) rs ∧ OwAll w (fun k => S k ∧ ¬ G k) rs sels
def OwAll (w : World) : (Nat → Prop) → List SelC → List Sl → Prop
  | _, rs, [] => rs = []
  | F, rs, s :: ss => ∃ r rt G, rs = r :: rt ∧ (∀ k, G k → F k) ∧ OwSel w G r s ∧ OwAll w (fun k => F k ∧ ¬ G k) rt ss
end
/-- A set of the call's own. -/
def OwSs (w : World) (F : Nat → Prop) (v : Value) (ss : List Sl) : Prop := ∃ (G : Nat → Prop) (rs : List SelC), (∀ k, G k → F k) ∧ Ow w G 51 eSel v rs ∧ OwAll w (fun k => F k ∧ ¬ G k) rs ss
mutual
theorem OwSel.frm {F X : Nat → Prop} {w w' : World} (f : Frm X w w') (hd : ∀ k, F k → ¬ X k) : ∀ {s : Sl} {r : SelC}, OwSel w F r s → OwSel w' F r s
  | .mk sp al nm args ifs sels, r, h => by
    unfold OwSel at h ⊢
    obtain ⟨h1, A, I, S, G, hA, hI, hS, hG, h2, h3, rs, h4, h5⟩ := h
    exact ⟨h1, A, I, S, G, hA, hI, hS, hG, h2.frm f fun k hk => hd k (hA k hk).1, h3.frm f fun k hk => hd k (hI k hk).1, rs, h4.frm f fun k hk => hd k (hS k (hG k hk)), OwAll.frm f (fun k hk => hd k (hS k hk.1)) h5⟩
theorem OwAll.frm {F X : Nat → Prop} {w w' : World} (f : Frm X w w') (hd : ∀ k, F k → ¬ X k) : ∀ {ss : List Sl} {rs : List SelC}, OwAll w F rs ss → OwAll w' F rs ss
  | [], rs, h => by unfold OwAll at h ⊢; exact h
  | s :: ss, rs, h => by
    unfold OwAll at h ⊢
    obtain ⟨r, rt, G, h1, hG, h2, h3⟩ := h
    exact ⟨r, rt, G, h1, hG, OwSel.frm f (fun k hk => hd k (hG k hk)) h2, OwAll.frm f (fun k hk => hd k hk.1) h3⟩
end
theorem OwSel.mono {F F' : Nat → Prop} {w : World} (hs : ∀ k, F k → F' k) : ∀ {s : Sl} {r : SelC}, OwSel w F r s → OwSel w F' r s
  | .mk sp al nm args ifs sels, r, h => by
    unfold OwSel at h ⊢
    obtain ⟨h1, A, I, S, G, hA, hI, hS, hG, h2, h3, rs, h4, h5⟩ := h
    exact ⟨h1, A, I, S, G, fun k hk => ⟨hs k (hA k hk).1, (hA k hk).2⟩, fun k hk => ⟨hs k (hI k hk).1, (hI k hk).2⟩, fun k hk => hs k (hS k hk), hG, h2, h3, rs, h4, h5⟩
theorem OwAll.mono {w : World} : ∀ {ss : List Sl} {rs : List SelC} {F F' : Nat → Prop}, (∀ k, F k → F' k) → OwAll w F rs ss → OwAll w F' rs ss
  | [], rs, F, F', hs, h => by unfold OwAll at h ⊢; exact h
  | s :: ss, rs, F, F', hs, h => by
    unfold OwAll at h ⊢
    obtain ⟨r, rt, G, h1, hG, h2, h3⟩ := h
    exact ⟨r, rt, G, h1, fun k hk => hs k (hG k hk), h2, h3.mono fun k hk => ⟨hs k hk.1, hk.2⟩⟩
theorem OwSs.mono {F F' : Nat → Prop} {w : World} {v : Value} {ss : List Sl} (hs : ∀ k, F k → F' k) (h : OwSs w F v ss) : OwSs w F' v ss := by
  obtain ⟨G, rs, h1, h2, h3⟩ := h; exact ⟨G, rs, fun k hk => hs k (h1 k hk), h2, h3.mono fun k hk => ⟨hs k hk.1, hk.2⟩⟩
theorem OwSs.frm {F X : Nat → Prop} {w w' : World} {v : Value} {ss : List Sl} (h : OwSs w F v ss) (f : Frm X w w') (hd : ∀ k, F k → ¬ X k) : OwSs w' F v ss := by
  obtain ⟨G, rs, h1, h2, h3⟩ := h; exact ⟨G, rs, h1, h2.frm f fun k hk => hd k (h1 k hk), OwAll.frm f (fun k hk => hd k hk.1) h3⟩
/-- One more. -/
theorem OwAll.snoc {w : World} {r : SelC} {s : Sl} {G : Nat → Prop} (hs : OwSel w G r s) : ∀ {ss : List Sl} {rs : List SelC} {F : Nat → Prop}, (∀ k, G k → ¬ F k) → OwAll w F rs ss → OwAll w (fun k => F k ∨ G k) (rs ++ [r]) (ss ++ [s])
  | [], rs, F, hd, h => by
    unfold OwAll at h
    subst h
    rw [List.nil_append, List.nil_append]
    unfold OwAll
    exact ⟨r, [], G, rfl, fun k hk => .inr hk, hs, by unfold OwAll; rfl⟩
  | t :: ss, rs, F, hd, h => by
    unfold OwAll at h
    obtain ⟨r', rt, G', rfl, hG, h2, h3⟩ := h
    rw [List.cons_append, List.cons_append]
    unfold OwAll
    refine ⟨r', rt ++ [r], G', rfl, fun k hk => .inl (hG k hk), h2, (h3.snoc hs (F := fun k => F k ∧ ¬ G' k) fun k hk hF => hd k hk hF.1).mono fun k hk => ?_⟩
    rcases hk with hk | hk
    · exact ⟨.inl hk.1, hk.2⟩
    · exact ⟨.inr hk, fun h' => hd k hk (hG k h')⟩
theorem Ow.rdB {α : Type} {w : World} {F G : Nat → Prop} {e : TypeId} {E : Enc α} {v : Value} {l : List α} (h : Ow w F e E v l) (hs : ∀ k, F k → G k) : RdB w G E v l := ⟨h.rd, fun _ hg => hs _ (h.blk hg)⟩
mutual
theorem OwSel.rd {w : World} : ∀ {s : Sl} {r : SelC} {F : Nat → Prop}, OwSel w F r s → RdSel w F r s
  | .mk sp al nm args ifs sels, r, F, h => by
    unfold OwSel at h
    unfold RdSel
    obtain ⟨h1, A, I, S, G, hA, hI, hS, hG, h2, h3, rs, h4, h5⟩ := h
    exact ⟨h1, Ow.rdB h2 fun k hk => (hA k hk).1, Ow.rdB h3 fun k hk => (hI k hk).1, rs, Ow.rdB h4 fun k hk => hS k (hG k hk), RdAll.mono (fun k _ hk => hS k hk.1) (OwAll.rd h5)⟩
theorem OwAll.rd {w : World} : ∀ {ss : List Sl} {rs : List SelC} {F : Nat → Prop}, OwAll w F rs ss → RdAll w F rs ss
  | [], rs, F, h => by unfold OwAll at h; unfold RdAll; exact h
  | s :: ss, rs, F, h => by
    unfold OwAll at h
    unfold RdAll
    obtain ⟨r, rt, G, h1, hG, h2, h3⟩ := h
    exact ⟨r, rt, h1, RdSel.mono (fun k _ hk => hG k hk) (OwSel.rd h2), RdAll.mono (fun k _ hk => hk.1) (OwAll.rd h3)⟩
end
theorem OwSs.rd {w : World} {F : Nat → Prop} {v : Value} {ss : List Sl} (h : OwSs w F v ss) : RdSs w F v ss := by
  obtain ⟨G, rs, h1, h2, h3⟩ := h
  exact ⟨rs, Ow.rdB h2 h1, RdAll.mono (fun k _ hk => hk.1) (OwAll.rd h3)⟩
theorem OwSs.nil (w : World) (F : Nat → Prop) (a : Option Addr) : OwSs w F (.slice a 0 0) [] := ⟨fun _ => False, [], fun _ h => h.elim, Ow.nil _ _ _ _ _, by unfold OwAll; rfl⟩
end Go.Proofs.YthaegncocdddfaaGreatDoor

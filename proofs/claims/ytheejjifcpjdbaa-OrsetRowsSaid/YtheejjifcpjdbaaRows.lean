/-
  No cell of these rows narrows 'for every input' (looked for: loops, veiled, ifaces, maps, wideKeys, modest, calm, conditions, laid).
  DERIVED. THE GIVEN ROWS OF THIS SEAT. 10 by the template 'for every input the law returns true; each argument reads behind the call as it read before'; 0 by the template 'total and deterministic' (their statements: YtheejjifcpjdbaaTotals.lean).
  GIVEN WITH THE SEED: the statements are not yours to turn. If you find one false, say at which input.
  Laid BY PROGRAM, IN A SANDBOX (cutbox-rows.mjs): the forced cells as the released guide's own fill.sh prints them over the translation d02ff04a1b34544d… (all of the seat's roots in one cut). By AI agents, Wed Nov 11 2026. No macro, syntax, notation, axiom, sorry.
-/
import Derived.Test.YtheejjifcpjdbaaChecked
import GoSem.Claim
import GoSem.ClaimJoined
import GoSem.ClaimMapViews
import Derived.JoinedTies
import Derived.KernelRfl
namespace Go.Proofs.Ytheejjifcpjdbaa
/- THE CELL 'sum', in the pinned program and in every row, IS THE sha256 OF THE DUMP (.gsa) THAT YtheejjifcpjdbaaProg.lean LOADS. Nothing in Lean hashes anything: it is a label: what it is worth is what the hold of that sum in a sandbox is worth. -/
noncomputable def Try.pinned : Pinned := { name := "ytheejjifcpjdbaa", sum := "d02ff04a1b34544d341486f35472488305b0c7ed7376706365798c3faedaf425", checked := Try.checked }
namespace Rows
def none {H : Type} : Left H := { results := [], args := [] }

/-- 'tattlelaw0.TattleNames': WHATEVER THE INPUT: true; the input reads as it did. -/
def tattleNamesSpec : ChangeSpec := { name := "tattleNames", fn := fun _ => fun
  | [] => { results := [.lit (.bool true)], args := [] }
  | _ => none }
def tattleNamesRow : OpenClaim := { program := "ytheejjifcpjdbaa", sum := "d02ff04a1b34544d341486f35472488305b0c7ed7376706365798c3faedaf425", func := "tattle/tattlelaw0.TattleNames", spec := "tattleNames", apart := false }
def TattleNamesSaid : Prop := tattleNamesRow.holds Try.pinned (OpenSpec.ofChange tattleNamesSpec)

/-- ITS FALSE NEIGHBOUR: 'it returns false'. Refute it at one input. -/
def tattleNamesWrong : ChangeSpec := { name := "tattleNames", fn := fun _ => fun
  | [] => { results := [.lit (.bool false)], args := [] }
  | _ => none }
def TattleNamesWrongFalsely : Prop := tattleNamesRow.holds Try.pinned (OpenSpec.ofChange tattleNamesWrong)

/-- 'tattlelaw20.Disks': WHATEVER THE INPUT: true; the input reads as it did. -/
def disksSpec : ChangeSpec := { name := "disks", fn := fun _ => fun
  | [d1, d2] => { results := [.lit (.bool true)], args := [d1, d2] }
  | _ => none }
def disksRow : OpenClaim := { program := "ytheejjifcpjdbaa", sum := "d02ff04a1b34544d341486f35472488305b0c7ed7376706365798c3faedaf425", func := "tattle/tattlelaw20.Disks", spec := "disks", apart := false }
def DisksSaid : Prop := disksRow.holds Try.pinned (OpenSpec.ofChange disksSpec)

/-- ITS FALSE NEIGHBOUR: 'it returns false'. Refute it at one input. -/
def disksWrong : ChangeSpec := { name := "disks", fn := fun _ => fun
  | [d1, d2] => { results := [.lit (.bool false)], args := [d1, d2] }
  | _ => none }
def DisksWrongFalsely : Prop := disksRow.holds Try.pinned (OpenSpec.ofChange disksWrong)

/-- 'tattlelaw20.DiskKeeps': WHATEVER THE INPUT: true; the input reads as it did. -/
def diskKeepsSpec : ChangeSpec := { name := "diskKeeps", fn := fun _ => fun
  | [d1, d2, d3] => { results := [.lit (.bool true)], args := [d1, d2, d3] }
  | _ => none }
def diskKeepsRow : OpenClaim := { program := "ytheejjifcpjdbaa", sum := "d02ff04a1b34544d341486f35472488305b0c7ed7376706365798c3faedaf425", func := "tattle/tattlelaw20.DiskKeeps", spec := "diskKeeps", apart := false }
def DiskKeepsSaid : Prop := diskKeepsRow.holds Try.pinned (OpenSpec.ofChange diskKeepsSpec)

/-- ITS FALSE NEIGHBOUR: 'it returns false'. Refute it at one input. -/
def diskKeepsWrong : ChangeSpec := { name := "diskKeeps", fn := fun _ => fun
  | [d1, d2, d3] => { results := [.lit (.bool false)], args := [d1, d2, d3] }
  | _ => none }
def DiskKeepsWrongFalsely : Prop := diskKeepsRow.holds Try.pinned (OpenSpec.ofChange diskKeepsWrong)

/-- 'tattlelaw20.DiskForms': WHATEVER THE INPUT: true; the input reads as it did. -/
def diskFormsSpec : ChangeSpec := { name := "diskForms", fn := fun _ => fun
  | [d1, d2] => { results := [.lit (.bool true)], args := [d1, d2] }
  | _ => none }
def diskFormsRow : OpenClaim := { program := "ytheejjifcpjdbaa", sum := "d02ff04a1b34544d341486f35472488305b0c7ed7376706365798c3faedaf425", func := "tattle/tattlelaw20.DiskForms", spec := "diskForms", apart := false }
def DiskFormsSaid : Prop := diskFormsRow.holds Try.pinned (OpenSpec.ofChange diskFormsSpec)

/-- ITS FALSE NEIGHBOUR: 'it returns false'. Refute it at one input. -/
def diskFormsWrong : ChangeSpec := { name := "diskForms", fn := fun _ => fun
  | [d1, d2] => { results := [.lit (.bool false)], args := [d1, d2] }
  | _ => none }
def DiskFormsWrongFalsely : Prop := diskFormsRow.holds Try.pinned (OpenSpec.ofChange diskFormsWrong)

/-- 'tattlelaw20.DiskRoom': WHATEVER THE INPUT: true; the input reads as it did. -/
def diskRoomSpec : ChangeSpec := { name := "diskRoom", fn := fun _ => fun
  | [d1, d2, d3] => { results := [.lit (.bool true)], args := [d1, d2, d3] }
  | _ => none }
def diskRoomRow : OpenClaim := { program := "ytheejjifcpjdbaa", sum := "d02ff04a1b34544d341486f35472488305b0c7ed7376706365798c3faedaf425", func := "tattle/tattlelaw20.DiskRoom", spec := "diskRoom", apart := false }
def DiskRoomSaid : Prop := diskRoomRow.holds Try.pinned (OpenSpec.ofChange diskRoomSpec)

/-- ITS FALSE NEIGHBOUR: 'it returns false'. Refute it at one input. -/
def diskRoomWrong : ChangeSpec := { name := "diskRoom", fn := fun _ => fun
  | [d1, d2, d3] => { results := [.lit (.bool false)], args := [d1, d2, d3] }
  | _ => none }
def DiskRoomWrongFalsely : Prop := diskRoomRow.holds Try.pinned (OpenSpec.ofChange diskRoomWrong)

/-- 'tattlelaw9.Orsets': WHATEVER THE INPUT: true; the input reads as it did. -/
def orsetsSpec : ChangeSpec := { name := "orsets", fn := fun _ => fun
  | [d1, d2, d3, d4] => { results := [.lit (.bool true)], args := [d1, d2, d3, d4] }
  | _ => none }
def orsetsRow : OpenClaim := { program := "ytheejjifcpjdbaa", sum := "d02ff04a1b34544d341486f35472488305b0c7ed7376706365798c3faedaf425", func := "tattle/tattlelaw9.Orsets", spec := "orsets", inPlace := ["slices.overlaps[tattle/api.Entry]"], unfollowed := true, recurses := true, apart := false }
def OrsetsSaid : Prop := orsetsRow.holds Try.pinned (OpenSpec.ofChange orsetsSpec)

/-- ITS FALSE NEIGHBOUR: 'it returns false'. Refute it at one input. -/
def orsetsWrong : ChangeSpec := { name := "orsets", fn := fun _ => fun
  | [d1, d2, d3, d4] => { results := [.lit (.bool false)], args := [d1, d2, d3, d4] }
  | _ => none }
def OrsetsWrongFalsely : Prop := orsetsRow.holds Try.pinned (OpenSpec.ofChange orsetsWrong)

/-- 'tattlelaw9.OrsetRows': WHATEVER THE INPUT: true; the input reads as it did. -/
def orsetRowsSpec : ChangeSpec := { name := "orsetRows", fn := fun _ => fun
  | [d1, d2] => { results := [.lit (.bool true)], args := [d1, d2] }
  | _ => none }
def orsetRowsRow : OpenClaim := { program := "ytheejjifcpjdbaa", sum := "d02ff04a1b34544d341486f35472488305b0c7ed7376706365798c3faedaf425", func := "tattle/tattlelaw9.OrsetRows", spec := "orsetRows", inPlace := ["slices.overlaps[tattle/api.Entry]"], unfollowed := true, recurses := true, apart := false }
def OrsetRowsSaid : Prop := orsetRowsRow.holds Try.pinned (OpenSpec.ofChange orsetRowsSpec)

/-- ITS FALSE NEIGHBOUR: 'it returns false'. Refute it at one input. -/
def orsetRowsWrong : ChangeSpec := { name := "orsetRows", fn := fun _ => fun
  | [d1, d2] => { results := [.lit (.bool false)], args := [d1, d2] }
  | _ => none }
def OrsetRowsWrongFalsely : Prop := orsetRowsRow.holds Try.pinned (OpenSpec.ofChange orsetRowsWrong)

/-- 'tattlelaw9.OrsetSees': WHATEVER THE INPUT: true; the input reads as it did. -/
def orsetSeesSpec : ChangeSpec := { name := "orsetSees", fn := fun _ => fun
  | [d1, d2, d3] => { results := [.lit (.bool true)], args := [d1, d2, d3] }
  | _ => none }
def orsetSeesRow : OpenClaim := { program := "ytheejjifcpjdbaa", sum := "d02ff04a1b34544d341486f35472488305b0c7ed7376706365798c3faedaf425", func := "tattle/tattlelaw9.OrsetSees", spec := "orsetSees", inPlace := ["slices.overlaps[tattle/api.Entry]"], unfollowed := true, recurses := true, apart := false }
def OrsetSeesSaid : Prop := orsetSeesRow.holds Try.pinned (OpenSpec.ofChange orsetSeesSpec)

/-- ITS FALSE NEIGHBOUR: 'it returns false'. Refute it at one input. -/
def orsetSeesWrong : ChangeSpec := { name := "orsetSees", fn := fun _ => fun
  | [d1, d2, d3] => { results := [.lit (.bool false)], args := [d1, d2, d3] }
  | _ => none }
def OrsetSeesWrongFalsely : Prop := orsetSeesRow.holds Try.pinned (OpenSpec.ofChange orsetSeesWrong)

/-- 'tattlelaw9.OrsetForms': WHATEVER THE INPUT: true; the input reads as it did. -/
def orsetFormsSpec : ChangeSpec := { name := "orsetForms", fn := fun _ => fun
  | [d1, d2] => { results := [.lit (.bool true)], args := [d1, d2] }
  | _ => none }
def orsetFormsRow : OpenClaim := { program := "ytheejjifcpjdbaa", sum := "d02ff04a1b34544d341486f35472488305b0c7ed7376706365798c3faedaf425", func := "tattle/tattlelaw9.OrsetForms", spec := "orsetForms", inPlace := ["slices.overlaps[tattle/api.Entry]"], unfollowed := true, recurses := true, apart := false }
def OrsetFormsSaid : Prop := orsetFormsRow.holds Try.pinned (OpenSpec.ofChange orsetFormsSpec)

/-- ITS FALSE NEIGHBOUR: 'it returns false'. Refute it at one input. -/
def orsetFormsWrong : ChangeSpec := { name := "orsetForms", fn := fun _ => fun
  | [d1, d2] => { results := [.lit (.bool false)], args := [d1, d2] }
  | _ => none }
def OrsetFormsWrongFalsely : Prop := orsetFormsRow.holds Try.pinned (OpenSpec.ofChange orsetFormsWrong)

/-- 'tattlelaw9.OrsetTexts': WHATEVER THE INPUT: true; the input reads as it did. -/
def orsetTextsSpec : ChangeSpec := { name := "orsetTexts", fn := fun _ => fun
  | [d] => { results := [.lit (.bool true)], args := [d] }
  | _ => none }
def orsetTextsRow : OpenClaim := { program := "ytheejjifcpjdbaa", sum := "d02ff04a1b34544d341486f35472488305b0c7ed7376706365798c3faedaf425", func := "tattle/tattlelaw9.OrsetTexts", spec := "orsetTexts", inPlace := ["slices.overlaps[tattle/api.Entry]"], unfollowed := true, recurses := true, apart := false }
def OrsetTextsSaid : Prop := orsetTextsRow.holds Try.pinned (OpenSpec.ofChange orsetTextsSpec)

/-- ITS FALSE NEIGHBOUR: 'it returns false'. Refute it at one input. -/
def orsetTextsWrong : ChangeSpec := { name := "orsetTexts", fn := fun _ => fun
  | [d] => { results := [.lit (.bool false)], args := [d] }
  | _ => none }
def OrsetTextsWrongFalsely : Prop := orsetTextsRow.holds Try.pinned (OpenSpec.ofChange orsetTextsWrong)

/- THE SECOND FORM. 'bulk': how many values and letters a reading holds, each counted each time it is reached (what is shared counts as often as it is met; a slice's spare places count too). A statement '..UptoSaid' is the law's where the arguments, and the package variables that the reading takes, are together of bulk at most 1048576: NARROWER than '..Said'. Prove '..Said' where nothing that the law and all that it calls make is longer than what came in: it says more and counts as full. Else prove '..UptoSaid'. A law counts once. -/
mutual
def uptoBulk {H : Type} : DataW H → Nat
  | .lit (.string bytes) => bytes.length + 1
  | .lit _ => 1
  | .nil => 1
  | .ptr d => uptoBulk d + 1
  | .slice elems spare => uptoBulkAll elems + uptoBulkAll spare + 1
  | .agg parts => uptoBulkAll parts + 1
  | .iface _ d => uptoBulk d + 1
  | .map entries => uptoBulkEntries entries + 1
  | .held _ => 1
def uptoBulkAll {H : Type} : List (DataW H) → Nat
  | [] => 0
  | d :: r => uptoBulk d + uptoBulkAll r
def uptoBulkEntries {H : Type} : List (Lit × DataW H) → Nat
  | [] => 0
  | x :: r => uptoBulkEntry x + uptoBulkEntries r
def uptoBulkEntry {H : Type} : Lit × DataW H → Nat
  | (.string bytes, d) => bytes.length + uptoBulk d + 1
  | (_, d) => uptoBulk d + 1
 end
def uptoSmall : (H : Type) → List (DataW H) → Bool := fun _ ds => decide (uptoBulkAll ds ≤ 1048576)
def OpenSpec.upto (s : _root_.Go.ChangeSpec) : _root_.Go.OpenSpec := { _root_.Go.OpenSpec.ofChange s with cond := some uptoSmall }

/-- 'tattlelaw0.TattleNames', WHERE WHAT IT READS IS OF BULK AT MOST 1048576: true; the input reads as it did. -/
def tattleNamesUptoRow : OpenClaim := { program := "ytheejjifcpjdbaa", sum := "d02ff04a1b34544d341486f35472488305b0c7ed7376706365798c3faedaf425", func := "tattle/tattlelaw0.TattleNames", spec := "tattleNames", apart := false, narrowed := true }
def TattleNamesUptoSaid : Prop := tattleNamesUptoRow.holds Try.pinned (OpenSpec.upto tattleNamesSpec)

/-- 'tattlelaw20.Disks', WHERE WHAT IT READS IS OF BULK AT MOST 1048576: true; the input reads as it did. -/
def disksUptoRow : OpenClaim := { program := "ytheejjifcpjdbaa", sum := "d02ff04a1b34544d341486f35472488305b0c7ed7376706365798c3faedaf425", func := "tattle/tattlelaw20.Disks", spec := "disks", apart := false, narrowed := true }
def DisksUptoSaid : Prop := disksUptoRow.holds Try.pinned (OpenSpec.upto disksSpec)

/-- 'tattlelaw20.DiskKeeps', WHERE WHAT IT READS IS OF BULK AT MOST 1048576: true; the input reads as it did. -/
def diskKeepsUptoRow : OpenClaim := { program := "ytheejjifcpjdbaa", sum := "d02ff04a1b34544d341486f35472488305b0c7ed7376706365798c3faedaf425", func := "tattle/tattlelaw20.DiskKeeps", spec := "diskKeeps", apart := false, narrowed := true }
def DiskKeepsUptoSaid : Prop := diskKeepsUptoRow.holds Try.pinned (OpenSpec.upto diskKeepsSpec)

/-- 'tattlelaw20.DiskForms', WHERE WHAT IT READS IS OF BULK AT MOST 1048576: true; the input reads as it did. -/
def diskFormsUptoRow : OpenClaim := { program := "ytheejjifcpjdbaa", sum := "d02ff04a1b34544d341486f35472488305b0c7ed7376706365798c3faedaf425", func := "tattle/tattlelaw20.DiskForms", spec := "diskForms", apart := false, narrowed := true }
def DiskFormsUptoSaid : Prop := diskFormsUptoRow.holds Try.pinned (OpenSpec.upto diskFormsSpec)

/-- 'tattlelaw20.DiskRoom', WHERE WHAT IT READS IS OF BULK AT MOST 1048576: true; the input reads as it did. -/
def diskRoomUptoRow : OpenClaim := { program := "ytheejjifcpjdbaa", sum := "d02ff04a1b34544d341486f35472488305b0c7ed7376706365798c3faedaf425", func := "tattle/tattlelaw20.DiskRoom", spec := "diskRoom", apart := false, narrowed := true }
def DiskRoomUptoSaid : Prop := diskRoomUptoRow.holds Try.pinned (OpenSpec.upto diskRoomSpec)

/-- 'tattlelaw9.Orsets', WHERE WHAT IT READS IS OF BULK AT MOST 1048576: true; the input reads as it did. -/
def orsetsUptoRow : OpenClaim := { program := "ytheejjifcpjdbaa", sum := "d02ff04a1b34544d341486f35472488305b0c7ed7376706365798c3faedaf425", func := "tattle/tattlelaw9.Orsets", spec := "orsets", inPlace := ["slices.overlaps[tattle/api.Entry]"], unfollowed := true, recurses := true, apart := false, narrowed := true }
def OrsetsUptoSaid : Prop := orsetsUptoRow.holds Try.pinned (OpenSpec.upto orsetsSpec)

/-- 'tattlelaw9.OrsetRows', WHERE WHAT IT READS IS OF BULK AT MOST 1048576: true; the input reads as it did. -/
def orsetRowsUptoRow : OpenClaim := { program := "ytheejjifcpjdbaa", sum := "d02ff04a1b34544d341486f35472488305b0c7ed7376706365798c3faedaf425", func := "tattle/tattlelaw9.OrsetRows", spec := "orsetRows", inPlace := ["slices.overlaps[tattle/api.Entry]"], unfollowed := true, recurses := true, apart := false, narrowed := true }
def OrsetRowsUptoSaid : Prop := orsetRowsUptoRow.holds Try.pinned (OpenSpec.upto orsetRowsSpec)

/-- 'tattlelaw9.OrsetSees', WHERE WHAT IT READS IS OF BULK AT MOST 1048576: true; the input reads as it did. -/
def orsetSeesUptoRow : OpenClaim := { program := "ytheejjifcpjdbaa", sum := "d02ff04a1b34544d341486f35472488305b0c7ed7376706365798c3faedaf425", func := "tattle/tattlelaw9.OrsetSees", spec := "orsetSees", inPlace := ["slices.overlaps[tattle/api.Entry]"], unfollowed := true, recurses := true, apart := false, narrowed := true }
def OrsetSeesUptoSaid : Prop := orsetSeesUptoRow.holds Try.pinned (OpenSpec.upto orsetSeesSpec)

/-- 'tattlelaw9.OrsetForms', WHERE WHAT IT READS IS OF BULK AT MOST 1048576: true; the input reads as it did. -/
def orsetFormsUptoRow : OpenClaim := { program := "ytheejjifcpjdbaa", sum := "d02ff04a1b34544d341486f35472488305b0c7ed7376706365798c3faedaf425", func := "tattle/tattlelaw9.OrsetForms", spec := "orsetForms", inPlace := ["slices.overlaps[tattle/api.Entry]"], unfollowed := true, recurses := true, apart := false, narrowed := true }
def OrsetFormsUptoSaid : Prop := orsetFormsUptoRow.holds Try.pinned (OpenSpec.upto orsetFormsSpec)

/-- 'tattlelaw9.OrsetTexts', WHERE WHAT IT READS IS OF BULK AT MOST 1048576: true; the input reads as it did. -/
def orsetTextsUptoRow : OpenClaim := { program := "ytheejjifcpjdbaa", sum := "d02ff04a1b34544d341486f35472488305b0c7ed7376706365798c3faedaf425", func := "tattle/tattlelaw9.OrsetTexts", spec := "orsetTexts", inPlace := ["slices.overlaps[tattle/api.Entry]"], unfollowed := true, recurses := true, apart := false, narrowed := true }
def OrsetTextsUptoSaid : Prop := orsetTextsUptoRow.holds Try.pinned (OpenSpec.upto orsetTextsSpec)

end Rows
end Go.Proofs.Ytheejjifcpjdbaa

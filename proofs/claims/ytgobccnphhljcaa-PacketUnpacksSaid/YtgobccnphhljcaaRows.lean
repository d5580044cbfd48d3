/-
  No cell of these rows narrows 'for every input' (looked for: loops, veiled, ifaces, maps, wideKeys, modest, calm, conditions, laid).
  DERIVED. THE GIVEN ROWS OF THIS SEAT. 12 by the template 'for every input the law returns true; each argument reads behind the call as it read before'; 0 by the template 'total and deterministic' (their statements: YtgobccnphhljcaaTotals.lean).
  GIVEN WITH THE SEED: the statements are not yours to turn. If you find one false, say at which input.
  Laid BY PROGRAM, IN A SANDBOX (cutbox-rows.mjs): the forced cells as the released guide's own fill.sh prints them over the translation e91c2cadc5edecb1… (all of the seat's roots in one cut). By AI agents, Wed Nov 11 2026. No macro, syntax, notation, axiom, sorry.
-/
import Derived.Test.YtgobccnphhljcaaChecked
import GoSem.Claim
import GoSem.ClaimJoined
import GoSem.ClaimMapViews
import Derived.JoinedTies
import Derived.KernelRfl
namespace Go.Proofs.Ytgobccnphhljcaa
/- THE CELL 'sum', in the pinned program and in every row, IS THE sha256 OF THE DUMP (.gsa) THAT YtgobccnphhljcaaProg.lean LOADS. Nothing in Lean hashes anything: it is a label: what it is worth is what the hold of that sum in a sandbox is worth. -/
noncomputable def Try.pinned : Pinned := { name := "ytgobccnphhljcaa", sum := "e91c2cadc5edecb16ea30480ad153abbc656314c851a6a8cdb3ae5d746bfa019", checked := Try.checked }
namespace Rows
def none {H : Type} : Left H := { results := [], args := [] }

/-- 'haulierlaw02.SumSeals': WHATEVER THE INPUT: true; the input reads as it did. -/
def sumSealsSpec : ChangeSpec := { name := "sumSeals", fn := fun _ => fun
  | [d1, d2] => { results := [.lit (.bool true)], args := [d1, d2] }
  | _ => none }
def sumSealsRow : OpenClaim := { program := "ytgobccnphhljcaa", sum := "e91c2cadc5edecb16ea30480ad153abbc656314c851a6a8cdb3ae5d746bfa019", func := "haulier/haulierlaw02.SumSeals", spec := "sumSeals", apart := false }
def SumSealsSaid : Prop := sumSealsRow.holds Try.pinned (OpenSpec.ofChange sumSealsSpec)

/-- ITS FALSE NEIGHBOUR: 'it returns false'. Refute it at one input. -/
def sumSealsWrong : ChangeSpec := { name := "sumSeals", fn := fun _ => fun
  | [d1, d2] => { results := [.lit (.bool false)], args := [d1, d2] }
  | _ => none }
def SumSealsWrongFalsely : Prop := sumSealsRow.holds Try.pinned (OpenSpec.ofChange sumSealsWrong)

/-- 'haulierlaw02.SumTells': WHATEVER THE INPUT: true; the input reads as it did. -/
def sumTellsSpec : ChangeSpec := { name := "sumTells", fn := fun _ => fun
  | [d1, d2, d3, d4, d5] => { results := [.lit (.bool true)], args := [d1, d2, d3, d4, d5] }
  | _ => none }
def sumTellsRow : OpenClaim := { program := "ytgobccnphhljcaa", sum := "e91c2cadc5edecb16ea30480ad153abbc656314c851a6a8cdb3ae5d746bfa019", func := "haulier/haulierlaw02.SumTells", spec := "sumTells", apart := false }
def SumTellsSaid : Prop := sumTellsRow.holds Try.pinned (OpenSpec.ofChange sumTellsSpec)

/-- ITS FALSE NEIGHBOUR: 'it returns false'. Refute it at one input. -/
def sumTellsWrong : ChangeSpec := { name := "sumTells", fn := fun _ => fun
  | [d1, d2, d3, d4, d5] => { results := [.lit (.bool false)], args := [d1, d2, d3, d4, d5] }
  | _ => none }
def SumTellsWrongFalsely : Prop := sumTellsRow.holds Try.pinned (OpenSpec.ofChange sumTellsWrong)

/-- 'haulierlaw02.SumFinds': WHATEVER THE INPUT: true; the input reads as it did. -/
def sumFindsSpec : ChangeSpec := { name := "sumFinds", fn := fun _ => fun
  | [d1, d2, d3] => { results := [.lit (.bool true)], args := [d1, d2, d3] }
  | _ => none }
def sumFindsRow : OpenClaim := { program := "ytgobccnphhljcaa", sum := "e91c2cadc5edecb16ea30480ad153abbc656314c851a6a8cdb3ae5d746bfa019", func := "haulier/haulierlaw02.SumFinds", spec := "sumFinds", apart := false }
def SumFindsSaid : Prop := sumFindsRow.holds Try.pinned (OpenSpec.ofChange sumFindsSpec)

/-- ITS FALSE NEIGHBOUR: 'it returns false'. Refute it at one input. -/
def sumFindsWrong : ChangeSpec := { name := "sumFinds", fn := fun _ => fun
  | [d1, d2, d3] => { results := [.lit (.bool false)], args := [d1, d2, d3] }
  | _ => none }
def SumFindsWrongFalsely : Prop := sumFindsRow.holds Try.pinned (OpenSpec.ofChange sumFindsWrong)

/-- 'haulierlaw06.PacketErrors': WHATEVER THE INPUT: true; the input reads as it did. -/
def packetErrorsSpec : ChangeSpec := { name := "packetErrors", fn := fun _ => fun
  | [d] => { results := [.lit (.bool true)], args := [d] }
  | _ => none }
def packetErrorsRow : OpenClaim := { program := "ytgobccnphhljcaa", sum := "e91c2cadc5edecb16ea30480ad153abbc656314c851a6a8cdb3ae5d746bfa019", func := "haulier/haulierlaw06.PacketErrors", spec := "packetErrors", apart := false }
def PacketErrorsSaid : Prop := packetErrorsRow.holds Try.pinned (OpenSpec.ofChange packetErrorsSpec)

/-- ITS FALSE NEIGHBOUR: 'it returns false'. Refute it at one input. -/
def packetErrorsWrong : ChangeSpec := { name := "packetErrors", fn := fun _ => fun
  | [d] => { results := [.lit (.bool false)], args := [d] }
  | _ => none }
def PacketErrorsWrongFalsely : Prop := packetErrorsRow.holds Try.pinned (OpenSpec.ofChange packetErrorsWrong)

/-- 'haulierlaw06.PacketPacks': WHATEVER THE INPUT: true; the input reads as it did. -/
def packetPacksSpec : ChangeSpec := { name := "packetPacks", fn := fun _ => fun
  | [d1, d2, d3, d4] => { results := [.lit (.bool true)], args := [d1, d2, d3, d4] }
  | _ => none }
def packetPacksRow : OpenClaim := { program := "ytgobccnphhljcaa", sum := "e91c2cadc5edecb16ea30480ad153abbc656314c851a6a8cdb3ae5d746bfa019", func := "haulier/haulierlaw06.PacketPacks", spec := "packetPacks", unfollowed := true, recurses := true, apart := false }
def PacketPacksSaid : Prop := packetPacksRow.holds Try.pinned (OpenSpec.ofChange packetPacksSpec)

/-- ITS FALSE NEIGHBOUR: 'it returns false'. Refute it at one input. -/
def packetPacksWrong : ChangeSpec := { name := "packetPacks", fn := fun _ => fun
  | [d1, d2, d3, d4] => { results := [.lit (.bool false)], args := [d1, d2, d3, d4] }
  | _ => none }
def PacketPacksWrongFalsely : Prop := packetPacksRow.holds Try.pinned (OpenSpec.ofChange packetPacksWrong)

/-- 'haulierlaw09.SegmentUnits': WHATEVER THE INPUT: true; the input reads as it did. -/
def segmentUnitsSpec : ChangeSpec := { name := "segmentUnits", fn := fun _ => fun
  | [d1, d2, d3] => { results := [.lit (.bool true)], args := [d1, d2, d3] }
  | _ => none }
def segmentUnitsRow : OpenClaim := { program := "ytgobccnphhljcaa", sum := "e91c2cadc5edecb16ea30480ad153abbc656314c851a6a8cdb3ae5d746bfa019", func := "haulier/haulierlaw09.SegmentUnits", spec := "segmentUnits", apart := false }
def SegmentUnitsSaid : Prop := segmentUnitsRow.holds Try.pinned (OpenSpec.ofChange segmentUnitsSpec)

/-- ITS FALSE NEIGHBOUR: 'it returns false'. Refute it at one input. -/
def segmentUnitsWrong : ChangeSpec := { name := "segmentUnits", fn := fun _ => fun
  | [d1, d2, d3] => { results := [.lit (.bool false)], args := [d1, d2, d3] }
  | _ => none }
def SegmentUnitsWrongFalsely : Prop := segmentUnitsRow.holds Try.pinned (OpenSpec.ofChange segmentUnitsWrong)

/-- 'haulierlaw09.SegmentEnds': WHATEVER THE INPUT: true; the input reads as it did. -/
def segmentEndsSpec : ChangeSpec := { name := "segmentEnds", fn := fun _ => fun
  | [d1, d2, d3, d4] => { results := [.lit (.bool true)], args := [d1, d2, d3, d4] }
  | _ => none }
def segmentEndsRow : OpenClaim := { program := "ytgobccnphhljcaa", sum := "e91c2cadc5edecb16ea30480ad153abbc656314c851a6a8cdb3ae5d746bfa019", func := "haulier/haulierlaw09.SegmentEnds", spec := "segmentEnds", apart := false }
def SegmentEndsSaid : Prop := segmentEndsRow.holds Try.pinned (OpenSpec.ofChange segmentEndsSpec)

/-- ITS FALSE NEIGHBOUR: 'it returns false'. Refute it at one input. -/
def segmentEndsWrong : ChangeSpec := { name := "segmentEnds", fn := fun _ => fun
  | [d1, d2, d3, d4] => { results := [.lit (.bool false)], args := [d1, d2, d3, d4] }
  | _ => none }
def SegmentEndsWrongFalsely : Prop := segmentEndsRow.holds Try.pinned (OpenSpec.ofChange segmentEndsWrong)

/-- 'haulierlaw09.SegmentBack': WHATEVER THE INPUT: true; the input reads as it did. -/
def segmentBackSpec : ChangeSpec := { name := "segmentBack", fn := fun _ => fun
  | [d1, d2, d3, d4] => { results := [.lit (.bool true)], args := [d1, d2, d3, d4] }
  | _ => none }
def segmentBackRow : OpenClaim := { program := "ytgobccnphhljcaa", sum := "e91c2cadc5edecb16ea30480ad153abbc656314c851a6a8cdb3ae5d746bfa019", func := "haulier/haulierlaw09.SegmentBack", spec := "segmentBack", apart := false }
def SegmentBackSaid : Prop := segmentBackRow.holds Try.pinned (OpenSpec.ofChange segmentBackSpec)

/-- ITS FALSE NEIGHBOUR: 'it returns false'. Refute it at one input. -/
def segmentBackWrong : ChangeSpec := { name := "segmentBack", fn := fun _ => fun
  | [d1, d2, d3, d4] => { results := [.lit (.bool false)], args := [d1, d2, d3, d4] }
  | _ => none }
def SegmentBackWrongFalsely : Prop := segmentBackRow.holds Try.pinned (OpenSpec.ofChange segmentBackWrong)

/-- 'haulierlaw06.PacketForms': WHATEVER THE INPUT: true; the input reads as it did. -/
def packetFormsSpec : ChangeSpec := { name := "packetForms", fn := fun _ => fun
  | [d1, d2, d3, d4] => { results := [.lit (.bool true)], args := [d1, d2, d3, d4] }
  | _ => none }
def packetFormsRow : OpenClaim := { program := "ytgobccnphhljcaa", sum := "e91c2cadc5edecb16ea30480ad153abbc656314c851a6a8cdb3ae5d746bfa019", func := "haulier/haulierlaw06.PacketForms", spec := "packetForms", apart := false }
def PacketFormsSaid : Prop := packetFormsRow.holds Try.pinned (OpenSpec.ofChange packetFormsSpec)

/-- ITS FALSE NEIGHBOUR: 'it returns false'. Refute it at one input. -/
def packetFormsWrong : ChangeSpec := { name := "packetForms", fn := fun _ => fun
  | [d1, d2, d3, d4] => { results := [.lit (.bool false)], args := [d1, d2, d3, d4] }
  | _ => none }
def PacketFormsWrongFalsely : Prop := packetFormsRow.holds Try.pinned (OpenSpec.ofChange packetFormsWrong)

/-- 'haulierlaw06.PacketRows': WHATEVER THE INPUT: true; the input reads as it did. -/
def packetRowsSpec : ChangeSpec := { name := "packetRows", fn := fun _ => fun
  | [d1, d2] => { results := [.lit (.bool true)], args := [d1, d2] }
  | _ => none }
def packetRowsRow : OpenClaim := { program := "ytgobccnphhljcaa", sum := "e91c2cadc5edecb16ea30480ad153abbc656314c851a6a8cdb3ae5d746bfa019", func := "haulier/haulierlaw06.PacketRows", spec := "packetRows", unfollowed := true, recurses := true, apart := false }
def PacketRowsSaid : Prop := packetRowsRow.holds Try.pinned (OpenSpec.ofChange packetRowsSpec)

/-- ITS FALSE NEIGHBOUR: 'it returns false'. Refute it at one input. -/
def packetRowsWrong : ChangeSpec := { name := "packetRows", fn := fun _ => fun
  | [d1, d2] => { results := [.lit (.bool false)], args := [d1, d2] }
  | _ => none }
def PacketRowsWrongFalsely : Prop := packetRowsRow.holds Try.pinned (OpenSpec.ofChange packetRowsWrong)

/-- 'haulierlaw06.PacketBack': WHATEVER THE INPUT: true; the input reads as it did. -/
def packetBackSpec : ChangeSpec := { name := "packetBack", fn := fun _ => fun
  | [d1, d2, d3, d4] => { results := [.lit (.bool true)], args := [d1, d2, d3, d4] }
  | _ => none }
def packetBackRow : OpenClaim := { program := "ytgobccnphhljcaa", sum := "e91c2cadc5edecb16ea30480ad153abbc656314c851a6a8cdb3ae5d746bfa019", func := "haulier/haulierlaw06.PacketBack", spec := "packetBack", unfollowed := true, recurses := true, apart := false }
def PacketBackSaid : Prop := packetBackRow.holds Try.pinned (OpenSpec.ofChange packetBackSpec)

/-- ITS FALSE NEIGHBOUR: 'it returns false'. Refute it at one input. -/
def packetBackWrong : ChangeSpec := { name := "packetBack", fn := fun _ => fun
  | [d1, d2, d3, d4] => { results := [.lit (.bool false)], args := [d1, d2, d3, d4] }
  | _ => none }
def PacketBackWrongFalsely : Prop := packetBackRow.holds Try.pinned (OpenSpec.ofChange packetBackWrong)

/-- 'haulierlaw06.PacketUnpacks': WHATEVER THE INPUT: true; the input reads as it did. -/
def packetUnpacksSpec : ChangeSpec := { name := "packetUnpacks", fn := fun _ => fun
  | [d1, d2, d3, d4, d5, d6, d7] => { results := [.lit (.bool true)], args := [d1, d2, d3, d4, d5, d6, d7] }
  | _ => none }
def packetUnpacksRow : OpenClaim := { program := "ytgobccnphhljcaa", sum := "e91c2cadc5edecb16ea30480ad153abbc656314c851a6a8cdb3ae5d746bfa019", func := "haulier/haulierlaw06.PacketUnpacks", spec := "packetUnpacks", unfollowed := true, recurses := true, apart := false }
def PacketUnpacksSaid : Prop := packetUnpacksRow.holds Try.pinned (OpenSpec.ofChange packetUnpacksSpec)

/-- ITS FALSE NEIGHBOUR: 'it returns false'. Refute it at one input. -/
def packetUnpacksWrong : ChangeSpec := { name := "packetUnpacks", fn := fun _ => fun
  | [d1, d2, d3, d4, d5, d6, d7] => { results := [.lit (.bool false)], args := [d1, d2, d3, d4, d5, d6, d7] }
  | _ => none }
def PacketUnpacksWrongFalsely : Prop := packetUnpacksRow.holds Try.pinned (OpenSpec.ofChange packetUnpacksWrong)

/- THE SECOND FORM. 'bulk': how many values and letters a reading holds, each counted each time it is reached (what is shared counts as often as it is met; a slice's spare places count too). A statement '..UptoSaid' is the law's where the arguments, and the package variables that the reading takes, are together of bulk at most 1048576: NARROWER than '..Said'. Prove '..Said' where nothing that the law and all that it calls make is longer than what came in: it says more and counts as full. Else prove '..UptoSaid'. A law counts once. -/
mutual
def uptoBulk {H : Type} : DataW H → Nat
  | .lit (.string bytes) => bytes.length + 1
  | .lit _ => 1
  | .nil => 1
  | .ptr d => uptoBulk d + 1
  | .slice elems spare => uptoBulkAll elems + uptoBulkAll spare + 1
  | .agg parts => uptoBulkAll parts + 1
  | .iface _ d => uptoBulk d + 1
  | .map entries => uptoBulkEntries entries + 1
  | .held _ => 1
def uptoBulkAll {H : Type} : List (DataW H) → Nat
  | [] => 0
  | d :: r => uptoBulk d + uptoBulkAll r
def uptoBulkEntries {H : Type} : List (Lit × DataW H) → Nat
  | [] => 0
  | x :: r => uptoBulkEntry x + uptoBulkEntries r
def uptoBulkEntry {H : Type} : Lit × DataW H → Nat
  | (.string bytes, d) => bytes.length + uptoBulk d + 1
  | (_, d) => uptoBulk d + 1
 end
def uptoSmall : (H : Type) → List (DataW H) → Bool := fun _ ds => decide (uptoBulkAll ds ≤ 1048576)
def OpenSpec.upto (s : _root_.Go.ChangeSpec) : _root_.Go.OpenSpec := { _root_.Go.OpenSpec.ofChange s with cond := some uptoSmall }

/-- 'haulierlaw02.SumSeals', WHERE WHAT IT READS IS OF BULK AT MOST 1048576: true; the input reads as it did. -/
def sumSealsUptoRow : OpenClaim := { program := "ytgobccnphhljcaa", sum := "e91c2cadc5edecb16ea30480ad153abbc656314c851a6a8cdb3ae5d746bfa019", func := "haulier/haulierlaw02.SumSeals", spec := "sumSeals", apart := false, narrowed := true }
def SumSealsUptoSaid : Prop := sumSealsUptoRow.holds Try.pinned (OpenSpec.upto sumSealsSpec)

/-- 'haulierlaw02.SumTells', WHERE WHAT IT READS IS OF BULK AT MOST 1048576: true; the input reads as it did. -/
def sumTellsUptoRow : OpenClaim := { program := "ytgobccnphhljcaa", sum := "e91c2cadc5edecb16ea30480ad153abbc656314c851a6a8cdb3ae5d746bfa019", func := "haulier/haulierlaw02.SumTells", spec := "sumTells", apart := false, narrowed := true }
def SumTellsUptoSaid : Prop := sumTellsUptoRow.holds Try.pinned (OpenSpec.upto sumTellsSpec)

/-- 'haulierlaw02.SumFinds', WHERE WHAT IT READS IS OF BULK AT MOST 1048576: true; the input reads as it did. -/
def sumFindsUptoRow : OpenClaim := { program := "ytgobccnphhljcaa", sum := "e91c2cadc5edecb16ea30480ad153abbc656314c851a6a8cdb3ae5d746bfa019", func := "haulier/haulierlaw02.SumFinds", spec := "sumFinds", apart := false, narrowed := true }
def SumFindsUptoSaid : Prop := sumFindsUptoRow.holds Try.pinned (OpenSpec.upto sumFindsSpec)

/-- 'haulierlaw06.PacketErrors', WHERE WHAT IT READS IS OF BULK AT MOST 1048576: true; the input reads as it did. -/
def packetErrorsUptoRow : OpenClaim := { program := "ytgobccnphhljcaa", sum := "e91c2cadc5edecb16ea30480ad153abbc656314c851a6a8cdb3ae5d746bfa019", func := "haulier/haulierlaw06.PacketErrors", spec := "packetErrors", apart := false, narrowed := true }
def PacketErrorsUptoSaid : Prop := packetErrorsUptoRow.holds Try.pinned (OpenSpec.upto packetErrorsSpec)

/-- 'haulierlaw06.PacketPacks', WHERE WHAT IT READS IS OF BULK AT MOST 1048576: true; the input reads as it did. -/
def packetPacksUptoRow : OpenClaim := { program := "ytgobccnphhljcaa", sum := "e91c2cadc5edecb16ea30480ad153abbc656314c851a6a8cdb3ae5d746bfa019", func := "haulier/haulierlaw06.PacketPacks", spec := "packetPacks", unfollowed := true, recurses := true, apart := false, narrowed := true }
def PacketPacksUptoSaid : Prop := packetPacksUptoRow.holds Try.pinned (OpenSpec.upto packetPacksSpec)

/-- 'haulierlaw09.SegmentUnits', WHERE WHAT IT READS IS OF BULK AT MOST 1048576: true; the input reads as it did. -/
def segmentUnitsUptoRow : OpenClaim := { program := "ytgobccnphhljcaa", sum := "e91c2cadc5edecb16ea30480ad153abbc656314c851a6a8cdb3ae5d746bfa019", func := "haulier/haulierlaw09.SegmentUnits", spec := "segmentUnits", apart := false, narrowed := true }
def SegmentUnitsUptoSaid : Prop := segmentUnitsUptoRow.holds Try.pinned (OpenSpec.upto segmentUnitsSpec)

/-- 'haulierlaw09.SegmentEnds', WHERE WHAT IT READS IS OF BULK AT MOST 1048576: true; the input reads as it did. -/
def segmentEndsUptoRow : OpenClaim := { program := "ytgobccnphhljcaa", sum := "e91c2cadc5edecb16ea30480ad153abbc656314c851a6a8cdb3ae5d746bfa019", func := "haulier/haulierlaw09.SegmentEnds", spec := "segmentEnds", apart := false, narrowed := true }
def SegmentEndsUptoSaid : Prop := segmentEndsUptoRow.holds Try.pinned (OpenSpec.upto segmentEndsSpec)

/-- 'haulierlaw09.SegmentBack', WHERE WHAT IT READS IS OF BULK AT MOST 1048576: true; the input reads as it did. -/
def segmentBackUptoRow : OpenClaim := { program := "ytgobccnphhljcaa", sum := "e91c2cadc5edecb16ea30480ad153abbc656314c851a6a8cdb3ae5d746bfa019", func := "haulier/haulierlaw09.SegmentBack", spec := "segmentBack", apart := false, narrowed := true }
def SegmentBackUptoSaid : Prop := segmentBackUptoRow.holds Try.pinned (OpenSpec.upto segmentBackSpec)

/-- 'haulierlaw06.PacketForms', WHERE WHAT IT READS IS OF BULK AT MOST 1048576: true; the input reads as it did. -/
def packetFormsUptoRow : OpenClaim := { program := "ytgobccnphhljcaa", sum := "e91c2cadc5edecb16ea30480ad153abbc656314c851a6a8cdb3ae5d746bfa019", func := "haulier/haulierlaw06.PacketForms", spec := "packetForms", apart := false, narrowed := true }
def PacketFormsUptoSaid : Prop := packetFormsUptoRow.holds Try.pinned (OpenSpec.upto packetFormsSpec)

/-- 'haulierlaw06.PacketRows', WHERE WHAT IT READS IS OF BULK AT MOST 1048576: true; the input reads as it did. -/
def packetRowsUptoRow : OpenClaim := { program := "ytgobccnphhljcaa", sum := "e91c2cadc5edecb16ea30480ad153abbc656314c851a6a8cdb3ae5d746bfa019", func := "haulier/haulierlaw06.PacketRows", spec := "packetRows", unfollowed := true, recurses := true, apart := false, narrowed := true }
def PacketRowsUptoSaid : Prop := packetRowsUptoRow.holds Try.pinned (OpenSpec.upto packetRowsSpec)

/-- 'haulierlaw06.PacketBack', WHERE WHAT IT READS IS OF BULK AT MOST 1048576: true; the input reads as it did. -/
def packetBackUptoRow : OpenClaim := { program := "ytgobccnphhljcaa", sum := "e91c2cadc5edecb16ea30480ad153abbc656314c851a6a8cdb3ae5d746bfa019", func := "haulier/haulierlaw06.PacketBack", spec := "packetBack", unfollowed := true, recurses := true, apart := false, narrowed := true }
def PacketBackUptoSaid : Prop := packetBackUptoRow.holds Try.pinned (OpenSpec.upto packetBackSpec)

/-- 'haulierlaw06.PacketUnpacks', WHERE WHAT IT READS IS OF BULK AT MOST 1048576: true; the input reads as it did. -/
def packetUnpacksUptoRow : OpenClaim := { program := "ytgobccnphhljcaa", sum := "e91c2cadc5edecb16ea30480ad153abbc656314c851a6a8cdb3ae5d746bfa019", func := "haulier/haulierlaw06.PacketUnpacks", spec := "packetUnpacks", unfollowed := true, recurses := true, apart := false, narrowed := true }
def PacketUnpacksUptoSaid : Prop := packetUnpacksUptoRow.holds Try.pinned (OpenSpec.upto packetUnpacksSpec)

end Rows
end Go.Proofs.Ytgobccnphhljcaa

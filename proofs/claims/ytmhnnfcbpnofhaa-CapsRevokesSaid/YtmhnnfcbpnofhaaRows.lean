/-
  No cell of these rows narrows 'for every input' (looked for: loops, veiled, ifaces, maps, wideKeys, modest, calm, conditions, laid).
  DERIVED. THE GIVEN ROWS OF THIS SEAT. 11 by the template 'for every input the law returns true; each argument reads behind the call as it read before'; 0 by the template 'total and deterministic' (their statements: YtmhnnfcbpnofhaaTotals.lean).
  GIVEN WITH THE SEED: the statements are not yours to turn. If you find one false, say at which input.
  Laid BY PROGRAM, IN A SANDBOX (cutbox-rows.mjs): the forced cells as the released guide's own fill.sh prints them over the translation 4fc8b6aed19c7b7d… (all of the seat's roots in one cut). By AI agents, Wed Nov 11 2026. No macro, syntax, notation, axiom, sorry.
-/
import Derived.Test.YtmhnnfcbpnofhaaChecked
import GoSem.Claim
import GoSem.ClaimJoined
import GoSem.ClaimMapViews
import Derived.JoinedTies
import Derived.KernelRfl
namespace Go.Proofs.Ytmhnnfcbpnofhaa
/- THE CELL 'sum', in the pinned program and in every row, IS THE sha256 OF THE DUMP (.gsa) THAT YtmhnnfcbpnofhaaProg.lean LOADS. Nothing in Lean hashes anything: it is a label: what it is worth is what the hold of that sum in a sandbox is worth. -/
noncomputable def Try.pinned : Pinned := { name := "ytmhnnfcbpnofhaa", sum := "4fc8b6aed19c7b7d2121b23908f1cf995d860e337957206cfb2e00d4f2565101", checked := Try.checked }
namespace Rows
def none {H : Type} : Left H := { results := [], args := [] }

/-- 'januslaw08.CapsRoom': WHATEVER THE INPUT: true; the input reads as it did. -/
def capsRoomSpec : ChangeSpec := { name := "capsRoom", fn := fun _ => fun
  | [d] => { results := [.lit (.bool true)], args := [d] }
  | _ => none }
def capsRoomRow : OpenClaim := { program := "ytmhnnfcbpnofhaa", sum := "4fc8b6aed19c7b7d2121b23908f1cf995d860e337957206cfb2e00d4f2565101", func := "janus/januslaw08.CapsRoom", spec := "capsRoom", unfollowed := true, recurses := true, apart := false }
def CapsRoomSaid : Prop := capsRoomRow.holds Try.pinned (OpenSpec.ofChange capsRoomSpec)

/-- ITS FALSE NEIGHBOUR: 'it returns false'. Refute it at one input. -/
def capsRoomWrong : ChangeSpec := { name := "capsRoom", fn := fun _ => fun
  | [d] => { results := [.lit (.bool false)], args := [d] }
  | _ => none }
def CapsRoomWrongFalsely : Prop := capsRoomRow.holds Try.pinned (OpenSpec.ofChange capsRoomWrong)

/-- 'januslaw08.CapsRevokes': WHATEVER THE INPUT: true; the input reads as it did. -/
def capsRevokesSpec : ChangeSpec := { name := "capsRevokes", fn := fun _ => fun
  | [d] => { results := [.lit (.bool true)], args := [d] }
  | _ => none }
def capsRevokesRow : OpenClaim := { program := "ytmhnnfcbpnofhaa", sum := "4fc8b6aed19c7b7d2121b23908f1cf995d860e337957206cfb2e00d4f2565101", func := "janus/januslaw08.CapsRevokes", spec := "capsRevokes", unfollowed := true, recurses := true, apart := false }
def CapsRevokesSaid : Prop := capsRevokesRow.holds Try.pinned (OpenSpec.ofChange capsRevokesSpec)

/-- ITS FALSE NEIGHBOUR: 'it returns false'. Refute it at one input. -/
def capsRevokesWrong : ChangeSpec := { name := "capsRevokes", fn := fun _ => fun
  | [d] => { results := [.lit (.bool false)], args := [d] }
  | _ => none }
def CapsRevokesWrongFalsely : Prop := capsRevokesRow.holds Try.pinned (OpenSpec.ofChange capsRevokesWrong)

/-- 'januslaw08.CapsPlays': WHATEVER THE INPUT: true; the input reads as it did. -/
def capsPlaysSpec : ChangeSpec := { name := "capsPlays", fn := fun _ => fun
  | [d] => { results := [.lit (.bool true)], args := [d] }
  | _ => none }
def capsPlaysRow : OpenClaim := { program := "ytmhnnfcbpnofhaa", sum := "4fc8b6aed19c7b7d2121b23908f1cf995d860e337957206cfb2e00d4f2565101", func := "janus/januslaw08.CapsPlays", spec := "capsPlays", unfollowed := true, recurses := true, apart := false }
def CapsPlaysSaid : Prop := capsPlaysRow.holds Try.pinned (OpenSpec.ofChange capsPlaysSpec)

/-- ITS FALSE NEIGHBOUR: 'it returns false'. Refute it at one input. -/
def capsPlaysWrong : ChangeSpec := { name := "capsPlays", fn := fun _ => fun
  | [d] => { results := [.lit (.bool false)], args := [d] }
  | _ => none }
def CapsPlaysWrongFalsely : Prop := capsPlaysRow.holds Try.pinned (OpenSpec.ofChange capsPlaysWrong)

/-- 'januslaw08.CapsNone': WHATEVER THE INPUT: true; the input reads as it did. -/
def capsNoneSpec : ChangeSpec := { name := "capsNone", fn := fun _ => fun
  | [d] => { results := [.lit (.bool true)], args := [d] }
  | _ => none }
def capsNoneRow : OpenClaim := { program := "ytmhnnfcbpnofhaa", sum := "4fc8b6aed19c7b7d2121b23908f1cf995d860e337957206cfb2e00d4f2565101", func := "janus/januslaw08.CapsNone", spec := "capsNone", unfollowed := true, recurses := true, apart := false }
def CapsNoneSaid : Prop := capsNoneRow.holds Try.pinned (OpenSpec.ofChange capsNoneSpec)

/-- ITS FALSE NEIGHBOUR: 'it returns false'. Refute it at one input. -/
def capsNoneWrong : ChangeSpec := { name := "capsNone", fn := fun _ => fun
  | [d] => { results := [.lit (.bool false)], args := [d] }
  | _ => none }
def CapsNoneWrongFalsely : Prop := capsNoneRow.holds Try.pinned (OpenSpec.ofChange capsNoneWrong)

/-- 'januslaw18.FdsReads': WHATEVER THE INPUT: true; the input reads as it did. -/
def fdsReadsSpec : ChangeSpec := { name := "fdsReads", fn := fun _ => fun
  | [d] => { results := [.lit (.bool true)], args := [d] }
  | _ => none }
def fdsReadsRow : OpenClaim := { program := "ytmhnnfcbpnofhaa", sum := "4fc8b6aed19c7b7d2121b23908f1cf995d860e337957206cfb2e00d4f2565101", func := "janus/januslaw18.FdsReads", spec := "fdsReads", unfollowed := true, recurses := true, apart := false }
def FdsReadsSaid : Prop := fdsReadsRow.holds Try.pinned (OpenSpec.ofChange fdsReadsSpec)

/-- ITS FALSE NEIGHBOUR: 'it returns false'. Refute it at one input. -/
def fdsReadsWrong : ChangeSpec := { name := "fdsReads", fn := fun _ => fun
  | [d] => { results := [.lit (.bool false)], args := [d] }
  | _ => none }
def FdsReadsWrongFalsely : Prop := fdsReadsRow.holds Try.pinned (OpenSpec.ofChange fdsReadsWrong)

/-- 'januslaw18.FdsRefs': WHATEVER THE INPUT: true; the input reads as it did. -/
def fdsRefsSpec : ChangeSpec := { name := "fdsRefs", fn := fun _ => fun
  | [d] => { results := [.lit (.bool true)], args := [d] }
  | _ => none }
def fdsRefsRow : OpenClaim := { program := "ytmhnnfcbpnofhaa", sum := "4fc8b6aed19c7b7d2121b23908f1cf995d860e337957206cfb2e00d4f2565101", func := "janus/januslaw18.FdsRefs", spec := "fdsRefs", unfollowed := true, recurses := true, apart := false }
def FdsRefsSaid : Prop := fdsRefsRow.holds Try.pinned (OpenSpec.ofChange fdsRefsSpec)

/-- ITS FALSE NEIGHBOUR: 'it returns false'. Refute it at one input. -/
def fdsRefsWrong : ChangeSpec := { name := "fdsRefs", fn := fun _ => fun
  | [d] => { results := [.lit (.bool false)], args := [d] }
  | _ => none }
def FdsRefsWrongFalsely : Prop := fdsRefsRow.holds Try.pinned (OpenSpec.ofChange fdsRefsWrong)

/-- 'januslaw18.FdsShares': WHATEVER THE INPUT: true; the input reads as it did. -/
def fdsSharesSpec : ChangeSpec := { name := "fdsShares", fn := fun _ => fun
  | [d] => { results := [.lit (.bool true)], args := [d] }
  | _ => none }
def fdsSharesRow : OpenClaim := { program := "ytmhnnfcbpnofhaa", sum := "4fc8b6aed19c7b7d2121b23908f1cf995d860e337957206cfb2e00d4f2565101", func := "janus/januslaw18.FdsShares", spec := "fdsShares", unfollowed := true, recurses := true, apart := false }
def FdsSharesSaid : Prop := fdsSharesRow.holds Try.pinned (OpenSpec.ofChange fdsSharesSpec)

/-- ITS FALSE NEIGHBOUR: 'it returns false'. Refute it at one input. -/
def fdsSharesWrong : ChangeSpec := { name := "fdsShares", fn := fun _ => fun
  | [d] => { results := [.lit (.bool false)], args := [d] }
  | _ => none }
def FdsSharesWrongFalsely : Prop := fdsSharesRow.holds Try.pinned (OpenSpec.ofChange fdsSharesWrong)

/-- 'januslaw09.ExomemShares': WHATEVER THE INPUT: true; the input reads as it did. -/
def exomemSharesSpec : ChangeSpec := { name := "exomemShares", fn := fun _ => fun
  | [d1, d2, d3] => { results := [.lit (.bool true)], args := [d1, d2, d3] }
  | _ => none }
def exomemSharesRow : OpenClaim := { program := "ytmhnnfcbpnofhaa", sum := "4fc8b6aed19c7b7d2121b23908f1cf995d860e337957206cfb2e00d4f2565101", func := "janus/januslaw09.ExomemShares", spec := "exomemShares", unfollowed := true, recurses := true, apart := false }
def ExomemSharesSaid : Prop := exomemSharesRow.holds Try.pinned (OpenSpec.ofChange exomemSharesSpec)

/-- ITS FALSE NEIGHBOUR: 'it returns false'. Refute it at one input. -/
def exomemSharesWrong : ChangeSpec := { name := "exomemShares", fn := fun _ => fun
  | [d1, d2, d3] => { results := [.lit (.bool false)], args := [d1, d2, d3] }
  | _ => none }
def ExomemSharesWrongFalsely : Prop := exomemSharesRow.holds Try.pinned (OpenSpec.ofChange exomemSharesWrong)

/-- 'januslaw09.ExomemGuards': WHATEVER THE INPUT: true; the input reads as it did. -/
def exomemGuardsSpec : ChangeSpec := { name := "exomemGuards", fn := fun _ => fun
  | [d1, d2] => { results := [.lit (.bool true)], args := [d1, d2] }
  | _ => none }
def exomemGuardsRow : OpenClaim := { program := "ytmhnnfcbpnofhaa", sum := "4fc8b6aed19c7b7d2121b23908f1cf995d860e337957206cfb2e00d4f2565101", func := "janus/januslaw09.ExomemGuards", spec := "exomemGuards", unfollowed := true, recurses := true, apart := false }
def ExomemGuardsSaid : Prop := exomemGuardsRow.holds Try.pinned (OpenSpec.ofChange exomemGuardsSpec)

/-- ITS FALSE NEIGHBOUR: 'it returns false'. Refute it at one input. -/
def exomemGuardsWrong : ChangeSpec := { name := "exomemGuards", fn := fun _ => fun
  | [d1, d2] => { results := [.lit (.bool false)], args := [d1, d2] }
  | _ => none }
def ExomemGuardsWrongFalsely : Prop := exomemGuardsRow.holds Try.pinned (OpenSpec.ofChange exomemGuardsWrong)

/-- 'januslaw09.ExomemClean': WHATEVER THE INPUT: true; the input reads as it did. -/
def exomemCleanSpec : ChangeSpec := { name := "exomemClean", fn := fun _ => fun
  | [d] => { results := [.lit (.bool true)], args := [d] }
  | _ => none }
def exomemCleanRow : OpenClaim := { program := "ytmhnnfcbpnofhaa", sum := "4fc8b6aed19c7b7d2121b23908f1cf995d860e337957206cfb2e00d4f2565101", func := "janus/januslaw09.ExomemClean", spec := "exomemClean", unfollowed := true, recurses := true, apart := false }
def ExomemCleanSaid : Prop := exomemCleanRow.holds Try.pinned (OpenSpec.ofChange exomemCleanSpec)

/-- ITS FALSE NEIGHBOUR: 'it returns false'. Refute it at one input. -/
def exomemCleanWrong : ChangeSpec := { name := "exomemClean", fn := fun _ => fun
  | [d] => { results := [.lit (.bool false)], args := [d] }
  | _ => none }
def ExomemCleanWrongFalsely : Prop := exomemCleanRow.holds Try.pinned (OpenSpec.ofChange exomemCleanWrong)

/-- 'januslaw09.ExomemNone': WHATEVER THE INPUT: true; the input reads as it did. -/
def exomemNoneSpec : ChangeSpec := { name := "exomemNone", fn := fun _ => fun
  | [d] => { results := [.lit (.bool true)], args := [d] }
  | _ => none }
def exomemNoneRow : OpenClaim := { program := "ytmhnnfcbpnofhaa", sum := "4fc8b6aed19c7b7d2121b23908f1cf995d860e337957206cfb2e00d4f2565101", func := "janus/januslaw09.ExomemNone", spec := "exomemNone", unfollowed := true, recurses := true, apart := false }
def ExomemNoneSaid : Prop := exomemNoneRow.holds Try.pinned (OpenSpec.ofChange exomemNoneSpec)

/-- ITS FALSE NEIGHBOUR: 'it returns false'. Refute it at one input. -/
def exomemNoneWrong : ChangeSpec := { name := "exomemNone", fn := fun _ => fun
  | [d] => { results := [.lit (.bool false)], args := [d] }
  | _ => none }
def ExomemNoneWrongFalsely : Prop := exomemNoneRow.holds Try.pinned (OpenSpec.ofChange exomemNoneWrong)

/- THE SECOND FORM. 'bulk': how many values and letters a reading holds, each counted each time it is reached (what is shared counts as often as it is met; a slice's spare places count too). A statement '..UptoSaid' is the law's where the arguments, and the package variables that the reading takes, are together of bulk at most 1048576: NARROWER than '..Said'. Prove '..Said' where nothing that the law and all that it calls make is longer than what came in: it says more and counts as full. Else prove '..UptoSaid'. A law counts once. -/
mutual
def uptoBulk {H : Type} : DataW H → Nat
  | .lit (.string bytes) => bytes.length + 1
  | .lit _ => 1
  | .nil => 1
  | .ptr d => uptoBulk d + 1
  | .slice elems spare => uptoBulkAll elems + uptoBulkAll spare + 1
  | .agg parts => uptoBulkAll parts + 1
  | .iface _ d => uptoBulk d + 1
  | .map entries => uptoBulkEntries entries + 1
  | .held _ => 1
def uptoBulkAll {H : Type} : List (DataW H) → Nat
  | [] => 0
  | d :: r => uptoBulk d + uptoBulkAll r
def uptoBulkEntries {H : Type} : List (Lit × DataW H) → Nat
  | [] => 0
  | x :: r => uptoBulkEntry x + uptoBulkEntries r
def uptoBulkEntry {H : Type} : Lit × DataW H → Nat
  | (.string bytes, d) => bytes.length + uptoBulk d + 1
  | (_, d) => uptoBulk d + 1
 end
def uptoSmall : (H : Type) → List (DataW H) → Bool := fun _ ds => decide (uptoBulkAll ds ≤ 1048576)
def OpenSpec.upto (s : _root_.Go.ChangeSpec) : _root_.Go.OpenSpec := { _root_.Go.OpenSpec.ofChange s with cond := some uptoSmall }

/-- 'januslaw08.CapsRoom', WHERE WHAT IT READS IS OF BULK AT MOST 1048576: true; the input reads as it did. -/
def capsRoomUptoRow : OpenClaim := { program := "ytmhnnfcbpnofhaa", sum := "4fc8b6aed19c7b7d2121b23908f1cf995d860e337957206cfb2e00d4f2565101", func := "janus/januslaw08.CapsRoom", spec := "capsRoom", unfollowed := true, recurses := true, apart := false, narrowed := true }
def CapsRoomUptoSaid : Prop := capsRoomUptoRow.holds Try.pinned (OpenSpec.upto capsRoomSpec)

/-- 'januslaw08.CapsRevokes', WHERE WHAT IT READS IS OF BULK AT MOST 1048576: true; the input reads as it did. -/
def capsRevokesUptoRow : OpenClaim := { program := "ytmhnnfcbpnofhaa", sum := "4fc8b6aed19c7b7d2121b23908f1cf995d860e337957206cfb2e00d4f2565101", func := "janus/januslaw08.CapsRevokes", spec := "capsRevokes", unfollowed := true, recurses := true, apart := false, narrowed := true }
def CapsRevokesUptoSaid : Prop := capsRevokesUptoRow.holds Try.pinned (OpenSpec.upto capsRevokesSpec)

/-- 'januslaw08.CapsPlays', WHERE WHAT IT READS IS OF BULK AT MOST 1048576: true; the input reads as it did. -/
def capsPlaysUptoRow : OpenClaim := { program := "ytmhnnfcbpnofhaa", sum := "4fc8b6aed19c7b7d2121b23908f1cf995d860e337957206cfb2e00d4f2565101", func := "janus/januslaw08.CapsPlays", spec := "capsPlays", unfollowed := true, recurses := true, apart := false, narrowed := true }
def CapsPlaysUptoSaid : Prop := capsPlaysUptoRow.holds Try.pinned (OpenSpec.upto capsPlaysSpec)

/-- 'januslaw08.CapsNone', WHERE WHAT IT READS IS OF BULK AT MOST 1048576: true; the input reads as it did. -/
def capsNoneUptoRow : OpenClaim := { program := "ytmhnnfcbpnofhaa", sum := "4fc8b6aed19c7b7d2121b23908f1cf995d860e337957206cfb2e00d4f2565101", func := "janus/januslaw08.CapsNone", spec := "capsNone", unfollowed := true, recurses := true, apart := false, narrowed := true }
def CapsNoneUptoSaid : Prop := capsNoneUptoRow.holds Try.pinned (OpenSpec.upto capsNoneSpec)

/-- 'januslaw18.FdsReads', WHERE WHAT IT READS IS OF BULK AT MOST 1048576: true; the input reads as it did. -/
def fdsReadsUptoRow : OpenClaim := { program := "ytmhnnfcbpnofhaa", sum := "4fc8b6aed19c7b7d2121b23908f1cf995d860e337957206cfb2e00d4f2565101", func := "janus/januslaw18.FdsReads", spec := "fdsReads", unfollowed := true, recurses := true, apart := false, narrowed := true }
def FdsReadsUptoSaid : Prop := fdsReadsUptoRow.holds Try.pinned (OpenSpec.upto fdsReadsSpec)

/-- 'januslaw18.FdsRefs', WHERE WHAT IT READS IS OF BULK AT MOST 1048576: true; the input reads as it did. -/
def fdsRefsUptoRow : OpenClaim := { program := "ytmhnnfcbpnofhaa", sum := "4fc8b6aed19c7b7d2121b23908f1cf995d860e337957206cfb2e00d4f2565101", func := "janus/januslaw18.FdsRefs", spec := "fdsRefs", unfollowed := true, recurses := true, apart := false, narrowed := true }
def FdsRefsUptoSaid : Prop := fdsRefsUptoRow.holds Try.pinned (OpenSpec.upto fdsRefsSpec)

/-- 'januslaw18.FdsShares', WHERE WHAT IT READS IS OF BULK AT MOST 1048576: true; the input reads as it did. -/
def fdsSharesUptoRow : OpenClaim := { program := "ytmhnnfcbpnofhaa", sum := "4fc8b6aed19c7b7d2121b23908f1cf995d860e337957206cfb2e00d4f2565101", func := "janus/januslaw18.FdsShares", spec := "fdsShares", unfollowed := true, recurses := true, apart := false, narrowed := true }
def FdsSharesUptoSaid : Prop := fdsSharesUptoRow.holds Try.pinned (OpenSpec.upto fdsSharesSpec)

/-- 'januslaw09.ExomemShares', WHERE WHAT IT READS IS OF BULK AT MOST 1048576: true; the input reads as it did. -/
def exomemSharesUptoRow : OpenClaim := { program := "ytmhnnfcbpnofhaa", sum := "4fc8b6aed19c7b7d2121b23908f1cf995d860e337957206cfb2e00d4f2565101", func := "janus/januslaw09.ExomemShares", spec := "exomemShares", unfollowed := true, recurses := true, apart := false, narrowed := true }
def ExomemSharesUptoSaid : Prop := exomemSharesUptoRow.holds Try.pinned (OpenSpec.upto exomemSharesSpec)

/-- 'januslaw09.ExomemGuards', WHERE WHAT IT READS IS OF BULK AT MOST 1048576: true; the input reads as it did. -/
def exomemGuardsUptoRow : OpenClaim := { program := "ytmhnnfcbpnofhaa", sum := "4fc8b6aed19c7b7d2121b23908f1cf995d860e337957206cfb2e00d4f2565101", func := "janus/januslaw09.ExomemGuards", spec := "exomemGuards", unfollowed := true, recurses := true, apart := false, narrowed := true }
def ExomemGuardsUptoSaid : Prop := exomemGuardsUptoRow.holds Try.pinned (OpenSpec.upto exomemGuardsSpec)

/-- 'januslaw09.ExomemClean', WHERE WHAT IT READS IS OF BULK AT MOST 1048576: true; the input reads as it did. -/
def exomemCleanUptoRow : OpenClaim := { program := "ytmhnnfcbpnofhaa", sum := "4fc8b6aed19c7b7d2121b23908f1cf995d860e337957206cfb2e00d4f2565101", func := "janus/januslaw09.ExomemClean", spec := "exomemClean", unfollowed := true, recurses := true, apart := false, narrowed := true }
def ExomemCleanUptoSaid : Prop := exomemCleanUptoRow.holds Try.pinned (OpenSpec.upto exomemCleanSpec)

/-- 'januslaw09.ExomemNone', WHERE WHAT IT READS IS OF BULK AT MOST 1048576: true; the input reads as it did. -/
def exomemNoneUptoRow : OpenClaim := { program := "ytmhnnfcbpnofhaa", sum := "4fc8b6aed19c7b7d2121b23908f1cf995d860e337957206cfb2e00d4f2565101", func := "janus/januslaw09.ExomemNone", spec := "exomemNone", unfollowed := true, recurses := true, apart := false, narrowed := true }
def ExomemNoneUptoSaid : Prop := exomemNoneUptoRow.holds Try.pinned (OpenSpec.upto exomemNoneSpec)

end Rows
end Go.Proofs.Ytmhnnfcbpnofhaa

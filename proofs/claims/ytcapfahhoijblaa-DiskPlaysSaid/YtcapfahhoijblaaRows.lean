/-
  No cell of these rows narrows 'for every input' (looked for: loops, veiled, ifaces, maps, wideKeys, modest, calm, conditions, laid).
  DERIVED. THE GIVEN ROWS OF THIS SEAT. 7 by the template 'for every input the law returns true; each argument reads behind the call as it read before'; 0 by the template 'total and deterministic' (their statements: YtcapfahhoijblaaTotals.lean).
  GIVEN WITH THE SEED: the statements are not yours to turn. If you find one false, say at which input.
  Laid BY PROGRAM, IN A SANDBOX (cutbox-rows.mjs): the forced cells as the released guide's own fill.sh prints them over the translation c4ff0972b33abea0… (all of the seat's roots in one cut). By AI agents, Wed Nov 11 2026. No macro, syntax, notation, axiom, sorry.
-/
import Derived.Test.YtcapfahhoijblaaChecked
import GoSem.Claim
import GoSem.ClaimJoined
import GoSem.ClaimMapViews
import Derived.JoinedTies
import Derived.KernelRfl
namespace Go.Proofs.Ytcapfahhoijblaa
/- THE CELL 'sum', in the pinned program and in every row, IS THE sha256 OF THE DUMP (.gsa) THAT YtcapfahhoijblaaProg.lean LOADS. Nothing in Lean hashes anything: it is a label: what it is worth is what the hold of that sum in a sandbox is worth. -/
noncomputable def Try.pinned : Pinned := { name := "ytcapfahhoijblaa", sum := "c4ff0972b33abea00721ec95f0e1fc73391eb622779ae4a1869a1e4fcf195da7", checked := Try.checked }
namespace Rows
def none {H : Type} : Left H := { results := [], args := [] }

/-- 'lavabolaw14.HistFails': WHATEVER THE INPUT: true; the input reads as it did. -/
def histFailsSpec : ChangeSpec := { name := "histFails", fn := fun _ => fun
  | [d1, d2, d3, d4] => { results := [.lit (.bool true)], args := [d1, d2, d3, d4] }
  | _ => none }
def histFailsRow : OpenClaim := { program := "ytcapfahhoijblaa", sum := "c4ff0972b33abea00721ec95f0e1fc73391eb622779ae4a1869a1e4fcf195da7", func := "lavabo/lavabolaw14.HistFails", spec := "histFails", unfollowed := true, recurses := true, apart := false }
def HistFailsSaid : Prop := histFailsRow.holds Try.pinned (OpenSpec.ofChange histFailsSpec)

/-- ITS FALSE NEIGHBOUR: 'it returns false'. Refute it at one input. -/
def histFailsWrong : ChangeSpec := { name := "histFails", fn := fun _ => fun
  | [d1, d2, d3, d4] => { results := [.lit (.bool false)], args := [d1, d2, d3, d4] }
  | _ => none }
def HistFailsWrongFalsely : Prop := histFailsRow.holds Try.pinned (OpenSpec.ofChange histFailsWrong)

/-- 'lavabolaw3.DiskPlays': WHATEVER THE INPUT: true; the input reads as it did. -/
def diskPlaysSpec : ChangeSpec := { name := "diskPlays", fn := fun _ => fun
  | [d1, d2] => { results := [.lit (.bool true)], args := [d1, d2] }
  | _ => none }
def diskPlaysRow : OpenClaim := { program := "ytcapfahhoijblaa", sum := "c4ff0972b33abea00721ec95f0e1fc73391eb622779ae4a1869a1e4fcf195da7", func := "lavabo/lavabolaw3.DiskPlays", spec := "diskPlays", unfollowed := true, recurses := true, apart := false }
def DiskPlaysSaid : Prop := diskPlaysRow.holds Try.pinned (OpenSpec.ofChange diskPlaysSpec)

/-- ITS FALSE NEIGHBOUR: 'it returns false'. Refute it at one input. -/
def diskPlaysWrong : ChangeSpec := { name := "diskPlays", fn := fun _ => fun
  | [d1, d2] => { results := [.lit (.bool false)], args := [d1, d2] }
  | _ => none }
def DiskPlaysWrongFalsely : Prop := diskPlaysRow.holds Try.pinned (OpenSpec.ofChange diskPlaysWrong)

/-- 'lavabolaw3.DiskReads': WHATEVER THE INPUT: true; the input reads as it did. -/
def diskReadsSpec : ChangeSpec := { name := "diskReads", fn := fun _ => fun
  | [d1, d2] => { results := [.lit (.bool true)], args := [d1, d2] }
  | _ => none }
def diskReadsRow : OpenClaim := { program := "ytcapfahhoijblaa", sum := "c4ff0972b33abea00721ec95f0e1fc73391eb622779ae4a1869a1e4fcf195da7", func := "lavabo/lavabolaw3.DiskReads", spec := "diskReads", unfollowed := true, recurses := true, apart := false }
def DiskReadsSaid : Prop := diskReadsRow.holds Try.pinned (OpenSpec.ofChange diskReadsSpec)

/-- ITS FALSE NEIGHBOUR: 'it returns false'. Refute it at one input. -/
def diskReadsWrong : ChangeSpec := { name := "diskReads", fn := fun _ => fun
  | [d1, d2] => { results := [.lit (.bool false)], args := [d1, d2] }
  | _ => none }
def DiskReadsWrongFalsely : Prop := diskReadsRow.holds Try.pinned (OpenSpec.ofChange diskReadsWrong)

/-- 'lavabolaw22.WreckAsks': WHATEVER THE INPUT: true; the input reads as it did. -/
def wreckAsksSpec : ChangeSpec := { name := "wreckAsks", fn := fun _ => fun
  | [d1, d2, d3, d4, d5] => { results := [.lit (.bool true)], args := [d1, d2, d3, d4, d5] }
  | _ => none }
def wreckAsksRow : OpenClaim := { program := "ytcapfahhoijblaa", sum := "c4ff0972b33abea00721ec95f0e1fc73391eb622779ae4a1869a1e4fcf195da7", func := "lavabo/lavabolaw22.WreckAsks", spec := "wreckAsks", unfollowed := true, recurses := true, apart := false }
def WreckAsksSaid : Prop := wreckAsksRow.holds Try.pinned (OpenSpec.ofChange wreckAsksSpec)

/-- ITS FALSE NEIGHBOUR: 'it returns false'. Refute it at one input. -/
def wreckAsksWrong : ChangeSpec := { name := "wreckAsks", fn := fun _ => fun
  | [d1, d2, d3, d4, d5] => { results := [.lit (.bool false)], args := [d1, d2, d3, d4, d5] }
  | _ => none }
def WreckAsksWrongFalsely : Prop := wreckAsksRow.holds Try.pinned (OpenSpec.ofChange wreckAsksWrong)

/-- 'lavabolaw22.WreckMakes': WHATEVER THE INPUT: true; the input reads as it did. -/
def wreckMakesSpec : ChangeSpec := { name := "wreckMakes", fn := fun _ => fun
  | [d1, d2, d3] => { results := [.lit (.bool true)], args := [d1, d2, d3] }
  | _ => none }
def wreckMakesRow : OpenClaim := { program := "ytcapfahhoijblaa", sum := "c4ff0972b33abea00721ec95f0e1fc73391eb622779ae4a1869a1e4fcf195da7", func := "lavabo/lavabolaw22.WreckMakes", spec := "wreckMakes", unfollowed := true, recurses := true, apart := false }
def WreckMakesSaid : Prop := wreckMakesRow.holds Try.pinned (OpenSpec.ofChange wreckMakesSpec)

/-- ITS FALSE NEIGHBOUR: 'it returns false'. Refute it at one input. -/
def wreckMakesWrong : ChangeSpec := { name := "wreckMakes", fn := fun _ => fun
  | [d1, d2, d3] => { results := [.lit (.bool false)], args := [d1, d2, d3] }
  | _ => none }
def WreckMakesWrongFalsely : Prop := wreckMakesRow.holds Try.pinned (OpenSpec.ofChange wreckMakesWrong)

/-- 'lavabolaw22.WreckLast': WHATEVER THE INPUT: true; the input reads as it did. -/
def wreckLastSpec : ChangeSpec := { name := "wreckLast", fn := fun _ => fun
  | [d1, d2] => { results := [.lit (.bool true)], args := [d1, d2] }
  | _ => none }
def wreckLastRow : OpenClaim := { program := "ytcapfahhoijblaa", sum := "c4ff0972b33abea00721ec95f0e1fc73391eb622779ae4a1869a1e4fcf195da7", func := "lavabo/lavabolaw22.WreckLast", spec := "wreckLast", unfollowed := true, recurses := true, apart := false }
def WreckLastSaid : Prop := wreckLastRow.holds Try.pinned (OpenSpec.ofChange wreckLastSpec)

/-- ITS FALSE NEIGHBOUR: 'it returns false'. Refute it at one input. -/
def wreckLastWrong : ChangeSpec := { name := "wreckLast", fn := fun _ => fun
  | [d1, d2] => { results := [.lit (.bool false)], args := [d1, d2] }
  | _ => none }
def WreckLastWrongFalsely : Prop := wreckLastRow.holds Try.pinned (OpenSpec.ofChange wreckLastWrong)

/-- 'lavabolaw22.WreckStages': WHATEVER THE INPUT: true; the input reads as it did. -/
def wreckStagesSpec : ChangeSpec := { name := "wreckStages", fn := fun _ => fun
  | [d1, d2, d3] => { results := [.lit (.bool true)], args := [d1, d2, d3] }
  | _ => none }
def wreckStagesRow : OpenClaim := { program := "ytcapfahhoijblaa", sum := "c4ff0972b33abea00721ec95f0e1fc73391eb622779ae4a1869a1e4fcf195da7", func := "lavabo/lavabolaw22.WreckStages", spec := "wreckStages", unfollowed := true, recurses := true, apart := false }
def WreckStagesSaid : Prop := wreckStagesRow.holds Try.pinned (OpenSpec.ofChange wreckStagesSpec)

/-- ITS FALSE NEIGHBOUR: 'it returns false'. Refute it at one input. -/
def wreckStagesWrong : ChangeSpec := { name := "wreckStages", fn := fun _ => fun
  | [d1, d2, d3] => { results := [.lit (.bool false)], args := [d1, d2, d3] }
  | _ => none }
def WreckStagesWrongFalsely : Prop := wreckStagesRow.holds Try.pinned (OpenSpec.ofChange wreckStagesWrong)

/- THE SECOND FORM. 'bulk': how many values and letters a reading holds, each counted each time it is reached (what is shared counts as often as it is met; a slice's spare places count too). A statement '..UptoSaid' is the law's where the arguments, and the package variables that the reading takes, are together of bulk at most 1048576: NARROWER than '..Said'. Prove '..Said' where nothing that the law and all that it calls make is longer than what came in: it says more and counts as full. Else prove '..UptoSaid'. A law counts once. -/
mutual
def uptoBulk {H : Type} : DataW H → Nat
  | .lit (.string bytes) => bytes.length + 1
  | .lit _ => 1
  | .nil => 1
  | .ptr d => uptoBulk d + 1
  | .slice elems spare => uptoBulkAll elems + uptoBulkAll spare + 1
  | .agg parts => uptoBulkAll parts + 1
  | .iface _ d => uptoBulk d + 1
  | .map entries => uptoBulkEntries entries + 1
  | .held _ => 1
def uptoBulkAll {H : Type} : List (DataW H) → Nat
  | [] => 0
  | d :: r => uptoBulk d + uptoBulkAll r
def uptoBulkEntries {H : Type} : List (Lit × DataW H) → Nat
  | [] => 0
  | x :: r => uptoBulkEntry x + uptoBulkEntries r
def uptoBulkEntry {H : Type} : Lit × DataW H → Nat
  | (.string bytes, d) => bytes.length + uptoBulk d + 1
  | (_, d) => uptoBulk d + 1
 end
def uptoSmall : (H : Type) → List (DataW H) → Bool := fun _ ds => decide (uptoBulkAll ds ≤ 1048576)
def OpenSpec.upto (s : _root_.Go.ChangeSpec) : _root_.Go.OpenSpec := { _root_.Go.OpenSpec.ofChange s with cond := some uptoSmall }

/-- 'lavabolaw14.HistFails', WHERE WHAT IT READS IS OF BULK AT MOST 1048576: true; the input reads as it did. -/
def histFailsUptoRow : OpenClaim := { program := "ytcapfahhoijblaa", sum := "c4ff0972b33abea00721ec95f0e1fc73391eb622779ae4a1869a1e4fcf195da7", func := "lavabo/lavabolaw14.HistFails", spec := "histFails", unfollowed := true, recurses := true, apart := false, narrowed := true }
def HistFailsUptoSaid : Prop := histFailsUptoRow.holds Try.pinned (OpenSpec.upto histFailsSpec)

/-- 'lavabolaw3.DiskPlays', WHERE WHAT IT READS IS OF BULK AT MOST 1048576: true; the input reads as it did. -/
def diskPlaysUptoRow : OpenClaim := { program := "ytcapfahhoijblaa", sum := "c4ff0972b33abea00721ec95f0e1fc73391eb622779ae4a1869a1e4fcf195da7", func := "lavabo/lavabolaw3.DiskPlays", spec := "diskPlays", unfollowed := true, recurses := true, apart := false, narrowed := true }
def DiskPlaysUptoSaid : Prop := diskPlaysUptoRow.holds Try.pinned (OpenSpec.upto diskPlaysSpec)

/-- 'lavabolaw3.DiskReads', WHERE WHAT IT READS IS OF BULK AT MOST 1048576: true; the input reads as it did. -/
def diskReadsUptoRow : OpenClaim := { program := "ytcapfahhoijblaa", sum := "c4ff0972b33abea00721ec95f0e1fc73391eb622779ae4a1869a1e4fcf195da7", func := "lavabo/lavabolaw3.DiskReads", spec := "diskReads", unfollowed := true, recurses := true, apart := false, narrowed := true }
def DiskReadsUptoSaid : Prop := diskReadsUptoRow.holds Try.pinned (OpenSpec.upto diskReadsSpec)

/-- 'lavabolaw22.WreckAsks', WHERE WHAT IT READS IS OF BULK AT MOST 1048576: true; the input reads as it did. -/
def wreckAsksUptoRow : OpenClaim := { program := "ytcapfahhoijblaa", sum := "c4ff0972b33abea00721ec95f0e1fc73391eb622779ae4a1869a1e4fcf195da7", func := "lavabo/lavabolaw22.WreckAsks", spec := "wreckAsks", unfollowed := true, recurses := true, apart := false, narrowed := true }
def WreckAsksUptoSaid : Prop := wreckAsksUptoRow.holds Try.pinned (OpenSpec.upto wreckAsksSpec)

/-- 'lavabolaw22.WreckMakes', WHERE WHAT IT READS IS OF BULK AT MOST 1048576: true; the input reads as it did. -/
def wreckMakesUptoRow : OpenClaim := { program := "ytcapfahhoijblaa", sum := "c4ff0972b33abea00721ec95f0e1fc73391eb622779ae4a1869a1e4fcf195da7", func := "lavabo/lavabolaw22.WreckMakes", spec := "wreckMakes", unfollowed := true, recurses := true, apart := false, narrowed := true }
def WreckMakesUptoSaid : Prop := wreckMakesUptoRow.holds Try.pinned (OpenSpec.upto wreckMakesSpec)

/-- 'lavabolaw22.WreckLast', WHERE WHAT IT READS IS OF BULK AT MOST 1048576: true; the input reads as it did. -/
def wreckLastUptoRow : OpenClaim := { program := "ytcapfahhoijblaa", sum := "c4ff0972b33abea00721ec95f0e1fc73391eb622779ae4a1869a1e4fcf195da7", func := "lavabo/lavabolaw22.WreckLast", spec := "wreckLast", unfollowed := true, recurses := true, apart := false, narrowed := true }
def WreckLastUptoSaid : Prop := wreckLastUptoRow.holds Try.pinned (OpenSpec.upto wreckLastSpec)

/-- 'lavabolaw22.WreckStages', WHERE WHAT IT READS IS OF BULK AT MOST 1048576: true; the input reads as it did. -/
def wreckStagesUptoRow : OpenClaim := { program := "ytcapfahhoijblaa", sum := "c4ff0972b33abea00721ec95f0e1fc73391eb622779ae4a1869a1e4fcf195da7", func := "lavabo/lavabolaw22.WreckStages", spec := "wreckStages", unfollowed := true, recurses := true, apart := false, narrowed := true }
def WreckStagesUptoSaid : Prop := wreckStagesUptoRow.holds Try.pinned (OpenSpec.upto wreckStagesSpec)

end Rows
end Go.Proofs.Ytcapfahhoijblaa

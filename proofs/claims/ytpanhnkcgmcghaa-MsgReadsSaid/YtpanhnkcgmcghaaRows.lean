/-
  No cell of these rows narrows 'for every input' (looked for: loops, veiled, ifaces, maps, wideKeys, modest, calm, conditions, laid).
  DERIVED. THE GIVEN ROWS OF THIS SEAT. 14 by the template 'for every input the law returns true; each argument reads behind the call as it read before'; 0 by the template 'total and deterministic' (their statements: YtpanhnkcgmcghaaTotals.lean).
  GIVEN WITH THE SEED: the statements are not yours to turn. If you find one false, say at which input.
  Laid BY PROGRAM, IN A SANDBOX (cutbox-rows.mjs): the forced cells as the released guide's own fill.sh prints them over the translation e6ae3d0587ca1df8… (all of the seat's roots in one cut). By AI agents, Wed Nov 11 2026. No macro, syntax, notation, axiom, sorry.
-/
import Derived.Test.YtpanhnkcgmcghaaChecked
import GoSem.Claim
import GoSem.ClaimJoined
import GoSem.ClaimMapViews
import Derived.JoinedTies
import Derived.KernelRfl
namespace Go.Proofs.Ytpanhnkcgmcghaa
/- THE CELL 'sum', in the pinned program and in every row, IS THE sha256 OF THE DUMP (.gsa) THAT YtpanhnkcgmcghaaProg.lean LOADS. Nothing in Lean hashes anything: it is a label: what it is worth is what the hold of that sum in a sandbox is worth. -/
noncomputable def Try.pinned : Pinned := { name := "ytpanhnkcgmcghaa", sum := "e6ae3d0587ca1df8f8b5a3659f32d443471423ea9dd57c35d5e329847c65c944", checked := Try.checked }
namespace Rows
def none {H : Type} : Left H := { results := [], args := [] }

/-- 'jobberlaw1.WireRuns': WHATEVER THE INPUT: true; the input reads as it did. -/
def wireRunsSpec : ChangeSpec := { name := "wireRuns", fn := fun _ => fun
  | [] => { results := [.lit (.bool true)], args := [] }
  | _ => none }
def wireRunsRow : OpenClaim := { program := "ytpanhnkcgmcghaa", sum := "e6ae3d0587ca1df8f8b5a3659f32d443471423ea9dd57c35d5e329847c65c944", func := "jobber/jobberlaw1.WireRuns", spec := "wireRuns", apart := false }
def WireRunsSaid : Prop := wireRunsRow.holds Try.pinned (OpenSpec.ofChange wireRunsSpec)

/-- ITS FALSE NEIGHBOUR: 'it returns false'. Refute it at one input. -/
def wireRunsWrong : ChangeSpec := { name := "wireRuns", fn := fun _ => fun
  | [] => { results := [.lit (.bool false)], args := [] }
  | _ => none }
def WireRunsWrongFalsely : Prop := wireRunsRow.holds Try.pinned (OpenSpec.ofChange wireRunsWrong)

/-- 'jobberlaw1.WireTexts': WHATEVER THE INPUT: true; the input reads as it did. -/
def wireTextsSpec : ChangeSpec := { name := "wireTexts", fn := fun _ => fun
  | [d1, d2] => { results := [.lit (.bool true)], args := [d1, d2] }
  | _ => none }
def wireTextsRow : OpenClaim := { program := "ytpanhnkcgmcghaa", sum := "e6ae3d0587ca1df8f8b5a3659f32d443471423ea9dd57c35d5e329847c65c944", func := "jobber/jobberlaw1.WireTexts", spec := "wireTexts", apart := false }
def WireTextsSaid : Prop := wireTextsRow.holds Try.pinned (OpenSpec.ofChange wireTextsSpec)

/-- ITS FALSE NEIGHBOUR: 'it returns false'. Refute it at one input. -/
def wireTextsWrong : ChangeSpec := { name := "wireTexts", fn := fun _ => fun
  | [d1, d2] => { results := [.lit (.bool false)], args := [d1, d2] }
  | _ => none }
def WireTextsWrongFalsely : Prop := wireTextsRow.holds Try.pinned (OpenSpec.ofChange wireTextsWrong)

/-- 'jobberlaw1.WireWrites': WHATEVER THE INPUT: true; the input reads as it did. -/
def wireWritesSpec : ChangeSpec := { name := "wireWrites", fn := fun _ => fun
  | [d1, d2, d3, d4, d5] => { results := [.lit (.bool true)], args := [d1, d2, d3, d4, d5] }
  | _ => none }
def wireWritesRow : OpenClaim := { program := "ytpanhnkcgmcghaa", sum := "e6ae3d0587ca1df8f8b5a3659f32d443471423ea9dd57c35d5e329847c65c944", func := "jobber/jobberlaw1.WireWrites", spec := "wireWrites", apart := false }
def WireWritesSaid : Prop := wireWritesRow.holds Try.pinned (OpenSpec.ofChange wireWritesSpec)

/-- ITS FALSE NEIGHBOUR: 'it returns false'. Refute it at one input. -/
def wireWritesWrong : ChangeSpec := { name := "wireWrites", fn := fun _ => fun
  | [d1, d2, d3, d4, d5] => { results := [.lit (.bool false)], args := [d1, d2, d3, d4, d5] }
  | _ => none }
def WireWritesWrongFalsely : Prop := wireWritesRow.holds Try.pinned (OpenSpec.ofChange wireWritesWrong)

/-- 'jobberlaw1.WireOrder': WHATEVER THE INPUT: true; the input reads as it did. -/
def wireOrderSpec : ChangeSpec := { name := "wireOrder", fn := fun _ => fun
  | [d1, d2, d3] => { results := [.lit (.bool true)], args := [d1, d2, d3] }
  | _ => none }
def wireOrderRow : OpenClaim := { program := "ytpanhnkcgmcghaa", sum := "e6ae3d0587ca1df8f8b5a3659f32d443471423ea9dd57c35d5e329847c65c944", func := "jobber/jobberlaw1.WireOrder", spec := "wireOrder", apart := false }
def WireOrderSaid : Prop := wireOrderRow.holds Try.pinned (OpenSpec.ofChange wireOrderSpec)

/-- ITS FALSE NEIGHBOUR: 'it returns false'. Refute it at one input. -/
def wireOrderWrong : ChangeSpec := { name := "wireOrder", fn := fun _ => fun
  | [d1, d2, d3] => { results := [.lit (.bool false)], args := [d1, d2, d3] }
  | _ => none }
def WireOrderWrongFalsely : Prop := wireOrderRow.holds Try.pinned (OpenSpec.ofChange wireOrderWrong)

/-- 'jobberlaw1.WireBack': WHATEVER THE INPUT: true; the input reads as it did. -/
def wireBackSpec : ChangeSpec := { name := "wireBack", fn := fun _ => fun
  | [d1, d2, d3, d4, d5] => { results := [.lit (.bool true)], args := [d1, d2, d3, d4, d5] }
  | _ => none }
def wireBackRow : OpenClaim := { program := "ytpanhnkcgmcghaa", sum := "e6ae3d0587ca1df8f8b5a3659f32d443471423ea9dd57c35d5e329847c65c944", func := "jobber/jobberlaw1.WireBack", spec := "wireBack", apart := false }
def WireBackSaid : Prop := wireBackRow.holds Try.pinned (OpenSpec.ofChange wireBackSpec)

/-- ITS FALSE NEIGHBOUR: 'it returns false'. Refute it at one input. -/
def wireBackWrong : ChangeSpec := { name := "wireBack", fn := fun _ => fun
  | [d1, d2, d3, d4, d5] => { results := [.lit (.bool false)], args := [d1, d2, d3, d4, d5] }
  | _ => none }
def WireBackWrongFalsely : Prop := wireBackRow.holds Try.pinned (OpenSpec.ofChange wireBackWrong)

/-- 'jobberlaw1.WireReads': WHATEVER THE INPUT: true; the input reads as it did. -/
def wireReadsSpec : ChangeSpec := { name := "wireReads", fn := fun _ => fun
  | [d1, d2] => { results := [.lit (.bool true)], args := [d1, d2] }
  | _ => none }
def wireReadsRow : OpenClaim := { program := "ytpanhnkcgmcghaa", sum := "e6ae3d0587ca1df8f8b5a3659f32d443471423ea9dd57c35d5e329847c65c944", func := "jobber/jobberlaw1.WireReads", spec := "wireReads", apart := false }
def WireReadsSaid : Prop := wireReadsRow.holds Try.pinned (OpenSpec.ofChange wireReadsSpec)

/-- ITS FALSE NEIGHBOUR: 'it returns false'. Refute it at one input. -/
def wireReadsWrong : ChangeSpec := { name := "wireReads", fn := fun _ => fun
  | [d1, d2] => { results := [.lit (.bool false)], args := [d1, d2] }
  | _ => none }
def WireReadsWrongFalsely : Prop := wireReadsRow.holds Try.pinned (OpenSpec.ofChange wireReadsWrong)

/-- 'jobberlaw1.WireBad': WHATEVER THE INPUT: true; the input reads as it did. -/
def wireBadSpec : ChangeSpec := { name := "wireBad", fn := fun _ => fun
  | [d1, d2] => { results := [.lit (.bool true)], args := [d1, d2] }
  | _ => none }
def wireBadRow : OpenClaim := { program := "ytpanhnkcgmcghaa", sum := "e6ae3d0587ca1df8f8b5a3659f32d443471423ea9dd57c35d5e329847c65c944", func := "jobber/jobberlaw1.WireBad", spec := "wireBad", apart := false }
def WireBadSaid : Prop := wireBadRow.holds Try.pinned (OpenSpec.ofChange wireBadSpec)

/-- ITS FALSE NEIGHBOUR: 'it returns false'. Refute it at one input. -/
def wireBadWrong : ChangeSpec := { name := "wireBad", fn := fun _ => fun
  | [d1, d2] => { results := [.lit (.bool false)], args := [d1, d2] }
  | _ => none }
def WireBadWrongFalsely : Prop := wireBadRow.holds Try.pinned (OpenSpec.ofChange wireBadWrong)

/-- 'jobberlaw6.MsgRuns': WHATEVER THE INPUT: true; the input reads as it did. -/
def msgRunsSpec : ChangeSpec := { name := "msgRuns", fn := fun _ => fun
  | [] => { results := [.lit (.bool true)], args := [] }
  | _ => none }
def msgRunsRow : OpenClaim := { program := "ytpanhnkcgmcghaa", sum := "e6ae3d0587ca1df8f8b5a3659f32d443471423ea9dd57c35d5e329847c65c944", func := "jobber/jobberlaw6.MsgRuns", spec := "msgRuns", apart := false }
def MsgRunsSaid : Prop := msgRunsRow.holds Try.pinned (OpenSpec.ofChange msgRunsSpec)

/-- ITS FALSE NEIGHBOUR: 'it returns false'. Refute it at one input. -/
def msgRunsWrong : ChangeSpec := { name := "msgRuns", fn := fun _ => fun
  | [] => { results := [.lit (.bool false)], args := [] }
  | _ => none }
def MsgRunsWrongFalsely : Prop := msgRunsRow.holds Try.pinned (OpenSpec.ofChange msgRunsWrong)

/-- 'jobberlaw6.MsgTells': WHATEVER THE INPUT: true; the input reads as it did. -/
def msgTellsSpec : ChangeSpec := { name := "msgTells", fn := fun _ => fun
  | [d1, d2] => { results := [.lit (.bool true)], args := [d1, d2] }
  | _ => none }
def msgTellsRow : OpenClaim := { program := "ytpanhnkcgmcghaa", sum := "e6ae3d0587ca1df8f8b5a3659f32d443471423ea9dd57c35d5e329847c65c944", func := "jobber/jobberlaw6.MsgTells", spec := "msgTells", apart := false }
def MsgTellsSaid : Prop := msgTellsRow.holds Try.pinned (OpenSpec.ofChange msgTellsSpec)

/-- ITS FALSE NEIGHBOUR: 'it returns false'. Refute it at one input. -/
def msgTellsWrong : ChangeSpec := { name := "msgTells", fn := fun _ => fun
  | [d1, d2] => { results := [.lit (.bool false)], args := [d1, d2] }
  | _ => none }
def MsgTellsWrongFalsely : Prop := msgTellsRow.holds Try.pinned (OpenSpec.ofChange msgTellsWrong)

/-- 'jobberlaw6.MsgOnly': WHATEVER THE INPUT: true; the input reads as it did. -/
def msgOnlySpec : ChangeSpec := { name := "msgOnly", fn := fun _ => fun
  | [d1, d2] => { results := [.lit (.bool true)], args := [d1, d2] }
  | _ => none }
def msgOnlyRow : OpenClaim := { program := "ytpanhnkcgmcghaa", sum := "e6ae3d0587ca1df8f8b5a3659f32d443471423ea9dd57c35d5e329847c65c944", func := "jobber/jobberlaw6.MsgOnly", spec := "msgOnly", apart := false }
def MsgOnlySaid : Prop := msgOnlyRow.holds Try.pinned (OpenSpec.ofChange msgOnlySpec)

/-- ITS FALSE NEIGHBOUR: 'it returns false'. Refute it at one input. -/
def msgOnlyWrong : ChangeSpec := { name := "msgOnly", fn := fun _ => fun
  | [d1, d2] => { results := [.lit (.bool false)], args := [d1, d2] }
  | _ => none }
def MsgOnlyWrongFalsely : Prop := msgOnlyRow.holds Try.pinned (OpenSpec.ofChange msgOnlyWrong)

/-- 'jobberlaw6.MsgLens': WHATEVER THE INPUT: true; the input reads as it did. -/
def msgLensSpec : ChangeSpec := { name := "msgLens", fn := fun _ => fun
  | [d1, d2] => { results := [.lit (.bool true)], args := [d1, d2] }
  | _ => none }
def msgLensRow : OpenClaim := { program := "ytpanhnkcgmcghaa", sum := "e6ae3d0587ca1df8f8b5a3659f32d443471423ea9dd57c35d5e329847c65c944", func := "jobber/jobberlaw6.MsgLens", spec := "msgLens", apart := false }
def MsgLensSaid : Prop := msgLensRow.holds Try.pinned (OpenSpec.ofChange msgLensSpec)

/-- ITS FALSE NEIGHBOUR: 'it returns false'. Refute it at one input. -/
def msgLensWrong : ChangeSpec := { name := "msgLens", fn := fun _ => fun
  | [d1, d2] => { results := [.lit (.bool false)], args := [d1, d2] }
  | _ => none }
def MsgLensWrongFalsely : Prop := msgLensRow.holds Try.pinned (OpenSpec.ofChange msgLensWrong)

/-- 'jobberlaw6.MsgNotes': WHATEVER THE INPUT: true; the input reads as it did. -/
def msgNotesSpec : ChangeSpec := { name := "msgNotes", fn := fun _ => fun
  | [d1, d2] => { results := [.lit (.bool true)], args := [d1, d2] }
  | _ => none }
def msgNotesRow : OpenClaim := { program := "ytpanhnkcgmcghaa", sum := "e6ae3d0587ca1df8f8b5a3659f32d443471423ea9dd57c35d5e329847c65c944", func := "jobber/jobberlaw6.MsgNotes", spec := "msgNotes", apart := false }
def MsgNotesSaid : Prop := msgNotesRow.holds Try.pinned (OpenSpec.ofChange msgNotesSpec)

/-- ITS FALSE NEIGHBOUR: 'it returns false'. Refute it at one input. -/
def msgNotesWrong : ChangeSpec := { name := "msgNotes", fn := fun _ => fun
  | [d1, d2] => { results := [.lit (.bool false)], args := [d1, d2] }
  | _ => none }
def MsgNotesWrongFalsely : Prop := msgNotesRow.holds Try.pinned (OpenSpec.ofChange msgNotesWrong)

/-- 'jobberlaw6.MsgReads': WHATEVER THE INPUT: true; the input reads as it did. -/
def msgReadsSpec : ChangeSpec := { name := "msgReads", fn := fun _ => fun
  | [d] => { results := [.lit (.bool true)], args := [d] }
  | _ => none }
def msgReadsRow : OpenClaim := { program := "ytpanhnkcgmcghaa", sum := "e6ae3d0587ca1df8f8b5a3659f32d443471423ea9dd57c35d5e329847c65c944", func := "jobber/jobberlaw6.MsgReads", spec := "msgReads", apart := false }
def MsgReadsSaid : Prop := msgReadsRow.holds Try.pinned (OpenSpec.ofChange msgReadsSpec)

/-- ITS FALSE NEIGHBOUR: 'it returns false'. Refute it at one input. -/
def msgReadsWrong : ChangeSpec := { name := "msgReads", fn := fun _ => fun
  | [d] => { results := [.lit (.bool false)], args := [d] }
  | _ => none }
def MsgReadsWrongFalsely : Prop := msgReadsRow.holds Try.pinned (OpenSpec.ofChange msgReadsWrong)

/-- 'jobberlaw6.MsgBack': WHATEVER THE INPUT: true; the input reads as it did. -/
def msgBackSpec : ChangeSpec := { name := "msgBack", fn := fun _ => fun
  | [d1, d2, d3, d4] => { results := [.lit (.bool true)], args := [d1, d2, d3, d4] }
  | _ => none }
def msgBackRow : OpenClaim := { program := "ytpanhnkcgmcghaa", sum := "e6ae3d0587ca1df8f8b5a3659f32d443471423ea9dd57c35d5e329847c65c944", func := "jobber/jobberlaw6.MsgBack", spec := "msgBack", apart := false }
def MsgBackSaid : Prop := msgBackRow.holds Try.pinned (OpenSpec.ofChange msgBackSpec)

/-- ITS FALSE NEIGHBOUR: 'it returns false'. Refute it at one input. -/
def msgBackWrong : ChangeSpec := { name := "msgBack", fn := fun _ => fun
  | [d1, d2, d3, d4] => { results := [.lit (.bool false)], args := [d1, d2, d3, d4] }
  | _ => none }
def MsgBackWrongFalsely : Prop := msgBackRow.holds Try.pinned (OpenSpec.ofChange msgBackWrong)

/- THE SECOND FORM. 'bulk': how many values and letters a reading holds, each counted each time it is reached (what is shared counts as often as it is met; a slice's spare places count too). A statement '..UptoSaid' is the law's where the arguments, and the package variables that the reading takes, are together of bulk at most 1048576: NARROWER than '..Said'. Prove '..Said' where nothing that the law and all that it calls make is longer than what came in: it says more and counts as full. Else prove '..UptoSaid'. A law counts once. -/
mutual
def uptoBulk {H : Type} : DataW H → Nat
  | .lit (.string bytes) => bytes.length + 1
  | .lit _ => 1
  | .nil => 1
  | .ptr d => uptoBulk d + 1
  | .slice elems spare => uptoBulkAll elems + uptoBulkAll spare + 1
  | .agg parts => uptoBulkAll parts + 1
  | .iface _ d => uptoBulk d + 1
  | .map entries => uptoBulkEntries entries + 1
  | .held _ => 1
def uptoBulkAll {H : Type} : List (DataW H) → Nat
  | [] => 0
  | d :: r => uptoBulk d + uptoBulkAll r
def uptoBulkEntries {H : Type} : List (Lit × DataW H) → Nat
  | [] => 0
  | x :: r => uptoBulkEntry x + uptoBulkEntries r
def uptoBulkEntry {H : Type} : Lit × DataW H → Nat
  | (.string bytes, d) => bytes.length + uptoBulk d + 1
  | (_, d) => uptoBulk d + 1
 end
def uptoSmall : (H : Type) → List (DataW H) → Bool := fun _ ds => decide (uptoBulkAll ds ≤ 1048576)
def OpenSpec.upto (s : _root_.Go.ChangeSpec) : _root_.Go.OpenSpec := { _root_.Go.OpenSpec.ofChange s with cond := some uptoSmall }

/-- 'jobberlaw1.WireRuns', WHERE WHAT IT READS IS OF BULK AT MOST 1048576: true; the input reads as it did. -/
def wireRunsUptoRow : OpenClaim := { program := "ytpanhnkcgmcghaa", sum := "e6ae3d0587ca1df8f8b5a3659f32d443471423ea9dd57c35d5e329847c65c944", func := "jobber/jobberlaw1.WireRuns", spec := "wireRuns", apart := false, narrowed := true }
def WireRunsUptoSaid : Prop := wireRunsUptoRow.holds Try.pinned (OpenSpec.upto wireRunsSpec)

/-- 'jobberlaw1.WireTexts', WHERE WHAT IT READS IS OF BULK AT MOST 1048576: true; the input reads as it did. -/
def wireTextsUptoRow : OpenClaim := { program := "ytpanhnkcgmcghaa", sum := "e6ae3d0587ca1df8f8b5a3659f32d443471423ea9dd57c35d5e329847c65c944", func := "jobber/jobberlaw1.WireTexts", spec := "wireTexts", apart := false, narrowed := true }
def WireTextsUptoSaid : Prop := wireTextsUptoRow.holds Try.pinned (OpenSpec.upto wireTextsSpec)

/-- 'jobberlaw1.WireWrites', WHERE WHAT IT READS IS OF BULK AT MOST 1048576: true; the input reads as it did. -/
def wireWritesUptoRow : OpenClaim := { program := "ytpanhnkcgmcghaa", sum := "e6ae3d0587ca1df8f8b5a3659f32d443471423ea9dd57c35d5e329847c65c944", func := "jobber/jobberlaw1.WireWrites", spec := "wireWrites", apart := false, narrowed := true }
def WireWritesUptoSaid : Prop := wireWritesUptoRow.holds Try.pinned (OpenSpec.upto wireWritesSpec)

/-- 'jobberlaw1.WireOrder', WHERE WHAT IT READS IS OF BULK AT MOST 1048576: true; the input reads as it did. -/
def wireOrderUptoRow : OpenClaim := { program := "ytpanhnkcgmcghaa", sum := "e6ae3d0587ca1df8f8b5a3659f32d443471423ea9dd57c35d5e329847c65c944", func := "jobber/jobberlaw1.WireOrder", spec := "wireOrder", apart := false, narrowed := true }
def WireOrderUptoSaid : Prop := wireOrderUptoRow.holds Try.pinned (OpenSpec.upto wireOrderSpec)

/-- 'jobberlaw1.WireBack', WHERE WHAT IT READS IS OF BULK AT MOST 1048576: true; the input reads as it did. -/
def wireBackUptoRow : OpenClaim := { program := "ytpanhnkcgmcghaa", sum := "e6ae3d0587ca1df8f8b5a3659f32d443471423ea9dd57c35d5e329847c65c944", func := "jobber/jobberlaw1.WireBack", spec := "wireBack", apart := false, narrowed := true }
def WireBackUptoSaid : Prop := wireBackUptoRow.holds Try.pinned (OpenSpec.upto wireBackSpec)

/-- 'jobberlaw1.WireReads', WHERE WHAT IT READS IS OF BULK AT MOST 1048576: true; the input reads as it did. -/
def wireReadsUptoRow : OpenClaim := { program := "ytpanhnkcgmcghaa", sum := "e6ae3d0587ca1df8f8b5a3659f32d443471423ea9dd57c35d5e329847c65c944", func := "jobber/jobberlaw1.WireReads", spec := "wireReads", apart := false, narrowed := true }
def WireReadsUptoSaid : Prop := wireReadsUptoRow.holds Try.pinned (OpenSpec.upto wireReadsSpec)

/-- 'jobberlaw1.WireBad', WHERE WHAT IT READS IS OF BULK AT MOST 1048576: true; the input reads as it did. -/
def wireBadUptoRow : OpenClaim := { program := "ytpanhnkcgmcghaa", sum := "e6ae3d0587ca1df8f8b5a3659f32d443471423ea9dd57c35d5e329847c65c944", func := "jobber/jobberlaw1.WireBad", spec := "wireBad", apart := false, narrowed := true }
def WireBadUptoSaid : Prop := wireBadUptoRow.holds Try.pinned (OpenSpec.upto wireBadSpec)

/-- 'jobberlaw6.MsgRuns', WHERE WHAT IT READS IS OF BULK AT MOST 1048576: true; the input reads as it did. -/
def msgRunsUptoRow : OpenClaim := { program := "ytpanhnkcgmcghaa", sum := "e6ae3d0587ca1df8f8b5a3659f32d443471423ea9dd57c35d5e329847c65c944", func := "jobber/jobberlaw6.MsgRuns", spec := "msgRuns", apart := false, narrowed := true }
def MsgRunsUptoSaid : Prop := msgRunsUptoRow.holds Try.pinned (OpenSpec.upto msgRunsSpec)

/-- 'jobberlaw6.MsgTells', WHERE WHAT IT READS IS OF BULK AT MOST 1048576: true; the input reads as it did. -/
def msgTellsUptoRow : OpenClaim := { program := "ytpanhnkcgmcghaa", sum := "e6ae3d0587ca1df8f8b5a3659f32d443471423ea9dd57c35d5e329847c65c944", func := "jobber/jobberlaw6.MsgTells", spec := "msgTells", apart := false, narrowed := true }
def MsgTellsUptoSaid : Prop := msgTellsUptoRow.holds Try.pinned (OpenSpec.upto msgTellsSpec)

/-- 'jobberlaw6.MsgOnly', WHERE WHAT IT READS IS OF BULK AT MOST 1048576: true; the input reads as it did. -/
def msgOnlyUptoRow : OpenClaim := { program := "ytpanhnkcgmcghaa", sum := "e6ae3d0587ca1df8f8b5a3659f32d443471423ea9dd57c35d5e329847c65c944", func := "jobber/jobberlaw6.MsgOnly", spec := "msgOnly", apart := false, narrowed := true }
def MsgOnlyUptoSaid : Prop := msgOnlyUptoRow.holds Try.pinned (OpenSpec.upto msgOnlySpec)

/-- 'jobberlaw6.MsgLens', WHERE WHAT IT READS IS OF BULK AT MOST 1048576: true; the input reads as it did. -/
def msgLensUptoRow : OpenClaim := { program := "ytpanhnkcgmcghaa", sum := "e6ae3d0587ca1df8f8b5a3659f32d443471423ea9dd57c35d5e329847c65c944", func := "jobber/jobberlaw6.MsgLens", spec := "msgLens", apart := false, narrowed := true }
def MsgLensUptoSaid : Prop := msgLensUptoRow.holds Try.pinned (OpenSpec.upto msgLensSpec)

/-- 'jobberlaw6.MsgNotes', WHERE WHAT IT READS IS OF BULK AT MOST 1048576: true; the input reads as it did. -/
def msgNotesUptoRow : OpenClaim := { program := "ytpanhnkcgmcghaa", sum := "e6ae3d0587ca1df8f8b5a3659f32d443471423ea9dd57c35d5e329847c65c944", func := "jobber/jobberlaw6.MsgNotes", spec := "msgNotes", apart := false, narrowed := true }
def MsgNotesUptoSaid : Prop := msgNotesUptoRow.holds Try.pinned (OpenSpec.upto msgNotesSpec)

/-- 'jobberlaw6.MsgReads', WHERE WHAT IT READS IS OF BULK AT MOST 1048576: true; the input reads as it did. -/
def msgReadsUptoRow : OpenClaim := { program := "ytpanhnkcgmcghaa", sum := "e6ae3d0587ca1df8f8b5a3659f32d443471423ea9dd57c35d5e329847c65c944", func := "jobber/jobberlaw6.MsgReads", spec := "msgReads", apart := false, narrowed := true }
def MsgReadsUptoSaid : Prop := msgReadsUptoRow.holds Try.pinned (OpenSpec.upto msgReadsSpec)

/-- 'jobberlaw6.MsgBack', WHERE WHAT IT READS IS OF BULK AT MOST 1048576: true; the input reads as it did. -/
def msgBackUptoRow : OpenClaim := { program := "ytpanhnkcgmcghaa", sum := "e6ae3d0587ca1df8f8b5a3659f32d443471423ea9dd57c35d5e329847c65c944", func := "jobber/jobberlaw6.MsgBack", spec := "msgBack", apart := false, narrowed := true }
def MsgBackUptoSaid : Prop := msgBackUptoRow.holds Try.pinned (OpenSpec.upto msgBackSpec)

end Rows
end Go.Proofs.Ytpanhnkcgmcghaa

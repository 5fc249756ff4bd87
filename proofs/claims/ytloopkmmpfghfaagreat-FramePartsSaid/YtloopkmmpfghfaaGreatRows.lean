/-
  No cell of these rows narrows 'for every input' (looked for: loops, veiled, ifaces, maps, wideKeys, modest, calm, conditions, laid).
  DERIVED. THE GIVEN ROWS OF THIS SEAT. 10 by the template 'for every input the law returns true; each argument reads behind the call as it read before'; 0 by the template 'total and deterministic' (their statements: YtloopkmmpfghfaaGreatTotals.lean).
  GIVEN WITH THE SEED: the statements are not yours to turn. If you find one false, say at which input.
  Laid BY PROGRAM, IN A SANDBOX (cutbox-rows.mjs): the forced cells as the released guide's own fill.sh prints them over the translation 3c29cb7025b7fad3… (all of the seat's roots in one cut). By AI agents, Wed Nov 11 2026. No macro, syntax, notation, axiom, sorry.
-/
import Derived.Test.YtloopkmmpfghfaaGreatChecked
import GoSem.Claim
import GoSem.ClaimJoined
import GoSem.ClaimMapViews
import Derived.JoinedTies
import Derived.KernelRfl
namespace Go.Proofs.YtloopkmmpfghfaaGreat
/- THE CELL 'sum', in the pinned program and in every row, IS THE sha256 OF THE DUMP (.gsa) THAT YtloopkmmpfghfaaGreatProg.lean LOADS. Nothing in Lean hashes anything: it is a label: what it is worth is what the hold of that sum in a sandbox is worth. -/
noncomputable def Tryz.pinned : Pinned := { name := "ytloopkmmpfghfaagreat", sum := "3c29cb7025b7fad3c069e9c96c72c5a29785ab8ae3803aec8fab06e6394f9aed", checked := Tryz.checked }
namespace Rows
def none {H : Type} : Left H := { results := [], args := [] }

/-- 'manglelaw8.FrameParts': WHATEVER THE INPUT: true; the input reads as it did. -/
def framePartsSpec : ChangeSpec := { name := "frameParts", fn := fun _ => fun
  | [d1, d2, d3] => { results := [.lit (.bool true)], args := [d1, d2, d3] }
  | _ => none }
def framePartsRow : OpenClaim := { program := "ytloopkmmpfghfaagreat", sum := "3c29cb7025b7fad3c069e9c96c72c5a29785ab8ae3803aec8fab06e6394f9aed", func := "mangle/manglelaw8.FrameParts", spec := "frameParts", inPlace := ["internal/bytealg.MakeNoZero"], unfollowed := true, recurses := true, apart := false }
def FramePartsSaid : Prop := framePartsRow.holds Tryz.pinned (OpenSpec.ofChange framePartsSpec)

/-- ITS FALSE NEIGHBOUR: 'it returns false'. Refute it at one input. -/
def framePartsWrong : ChangeSpec := { name := "frameParts", fn := fun _ => fun
  | [d1, d2, d3] => { results := [.lit (.bool false)], args := [d1, d2, d3] }
  | _ => none }
def FramePartsWrongFalsely : Prop := framePartsRow.holds Tryz.pinned (OpenSpec.ofChange framePartsWrong)

/-- 'manglelaw8.FrameReads': WHATEVER THE INPUT: true; the input reads as it did. -/
def frameReadsSpec : ChangeSpec := { name := "frameReads", fn := fun _ => fun
  | [d1, d2, d3] => { results := [.lit (.bool true)], args := [d1, d2, d3] }
  | _ => none }
def frameReadsRow : OpenClaim := { program := "ytloopkmmpfghfaagreat", sum := "3c29cb7025b7fad3c069e9c96c72c5a29785ab8ae3803aec8fab06e6394f9aed", func := "mangle/manglelaw8.FrameReads", spec := "frameReads", inPlace := ["internal/bytealg.MakeNoZero"], unfollowed := true, recurses := true, apart := false }
def FrameReadsSaid : Prop := frameReadsRow.holds Tryz.pinned (OpenSpec.ofChange frameReadsSpec)

/-- ITS FALSE NEIGHBOUR: 'it returns false'. Refute it at one input. -/
def frameReadsWrong : ChangeSpec := { name := "frameReads", fn := fun _ => fun
  | [d1, d2, d3] => { results := [.lit (.bool false)], args := [d1, d2, d3] }
  | _ => none }
def FrameReadsWrongFalsely : Prop := frameReadsRow.holds Tryz.pinned (OpenSpec.ofChange frameReadsWrong)

/-- 'manglelaw8.FrameBack': WHATEVER THE INPUT: true; the input reads as it did. -/
def frameBackSpec : ChangeSpec := { name := "frameBack", fn := fun _ => fun
  | [d1, d2, d3, d4] => { results := [.lit (.bool true)], args := [d1, d2, d3, d4] }
  | _ => none }
def frameBackRow : OpenClaim := { program := "ytloopkmmpfghfaagreat", sum := "3c29cb7025b7fad3c069e9c96c72c5a29785ab8ae3803aec8fab06e6394f9aed", func := "mangle/manglelaw8.FrameBack", spec := "frameBack", inPlace := ["internal/bytealg.MakeNoZero"], unfollowed := true, recurses := true, apart := false }
def FrameBackSaid : Prop := frameBackRow.holds Tryz.pinned (OpenSpec.ofChange frameBackSpec)

/-- ITS FALSE NEIGHBOUR: 'it returns false'. Refute it at one input. -/
def frameBackWrong : ChangeSpec := { name := "frameBack", fn := fun _ => fun
  | [d1, d2, d3, d4] => { results := [.lit (.bool false)], args := [d1, d2, d3, d4] }
  | _ => none }
def FrameBackWrongFalsely : Prop := frameBackRow.holds Tryz.pinned (OpenSpec.ofChange frameBackWrong)

/-- 'manglelaw8.FramePart': WHATEVER THE INPUT: true; the input reads as it did. -/
def framePartSpec : ChangeSpec := { name := "framePart", fn := fun _ => fun
  | [d1, d2, d3] => { results := [.lit (.bool true)], args := [d1, d2, d3] }
  | _ => none }
def framePartRow : OpenClaim := { program := "ytloopkmmpfghfaagreat", sum := "3c29cb7025b7fad3c069e9c96c72c5a29785ab8ae3803aec8fab06e6394f9aed", func := "mangle/manglelaw8.FramePart", spec := "framePart", inPlace := ["internal/bytealg.MakeNoZero"], unfollowed := true, recurses := true, apart := false }
def FramePartSaid : Prop := framePartRow.holds Tryz.pinned (OpenSpec.ofChange framePartSpec)

/-- ITS FALSE NEIGHBOUR: 'it returns false'. Refute it at one input. -/
def framePartWrong : ChangeSpec := { name := "framePart", fn := fun _ => fun
  | [d1, d2, d3] => { results := [.lit (.bool false)], args := [d1, d2, d3] }
  | _ => none }
def FramePartWrongFalsely : Prop := framePartRow.holds Tryz.pinned (OpenSpec.ofChange framePartWrong)

/-- 'manglelaw8.FrameTurned': WHATEVER THE INPUT: true; the input reads as it did. -/
def frameTurnedSpec : ChangeSpec := { name := "frameTurned", fn := fun _ => fun
  | [d1, d2, d3, d4, d5] => { results := [.lit (.bool true)], args := [d1, d2, d3, d4, d5] }
  | _ => none }
def frameTurnedRow : OpenClaim := { program := "ytloopkmmpfghfaagreat", sum := "3c29cb7025b7fad3c069e9c96c72c5a29785ab8ae3803aec8fab06e6394f9aed", func := "mangle/manglelaw8.FrameTurned", spec := "frameTurned", inPlace := ["internal/bytealg.MakeNoZero"], unfollowed := true, recurses := true, apart := false }
def FrameTurnedSaid : Prop := frameTurnedRow.holds Tryz.pinned (OpenSpec.ofChange frameTurnedSpec)

/-- ITS FALSE NEIGHBOUR: 'it returns false'. Refute it at one input. -/
def frameTurnedWrong : ChangeSpec := { name := "frameTurned", fn := fun _ => fun
  | [d1, d2, d3, d4, d5] => { results := [.lit (.bool false)], args := [d1, d2, d3, d4, d5] }
  | _ => none }
def FrameTurnedWrongFalsely : Prop := frameTurnedRow.holds Tryz.pinned (OpenSpec.ofChange frameTurnedWrong)

/-- 'manglelaw8.FrameSums': WHATEVER THE INPUT: true; the input reads as it did. -/
def frameSumsSpec : ChangeSpec := { name := "frameSums", fn := fun _ => fun
  | [d1, d2, d3, d4] => { results := [.lit (.bool true)], args := [d1, d2, d3, d4] }
  | _ => none }
def frameSumsRow : OpenClaim := { program := "ytloopkmmpfghfaagreat", sum := "3c29cb7025b7fad3c069e9c96c72c5a29785ab8ae3803aec8fab06e6394f9aed", func := "mangle/manglelaw8.FrameSums", spec := "frameSums", inPlace := ["internal/bytealg.MakeNoZero"], unfollowed := true, recurses := true, apart := false }
def FrameSumsSaid : Prop := frameSumsRow.holds Tryz.pinned (OpenSpec.ofChange frameSumsSpec)

/-- ITS FALSE NEIGHBOUR: 'it returns false'. Refute it at one input. -/
def frameSumsWrong : ChangeSpec := { name := "frameSums", fn := fun _ => fun
  | [d1, d2, d3, d4] => { results := [.lit (.bool false)], args := [d1, d2, d3, d4] }
  | _ => none }
def FrameSumsWrongFalsely : Prop := frameSumsRow.holds Tryz.pinned (OpenSpec.ofChange frameSumsWrong)

/-- 'manglelaw8.FrameDicts': WHATEVER THE INPUT: true; the input reads as it did. -/
def frameDictsSpec : ChangeSpec := { name := "frameDicts", fn := fun _ => fun
  | [d1, d2, d3, d4] => { results := [.lit (.bool true)], args := [d1, d2, d3, d4] }
  | _ => none }
def frameDictsRow : OpenClaim := { program := "ytloopkmmpfghfaagreat", sum := "3c29cb7025b7fad3c069e9c96c72c5a29785ab8ae3803aec8fab06e6394f9aed", func := "mangle/manglelaw8.FrameDicts", spec := "frameDicts", inPlace := ["internal/bytealg.MakeNoZero"], unfollowed := true, recurses := true, apart := false }
def FrameDictsSaid : Prop := frameDictsRow.holds Tryz.pinned (OpenSpec.ofChange frameDictsSpec)

/-- ITS FALSE NEIGHBOUR: 'it returns false'. Refute it at one input. -/
def frameDictsWrong : ChangeSpec := { name := "frameDicts", fn := fun _ => fun
  | [d1, d2, d3, d4] => { results := [.lit (.bool false)], args := [d1, d2, d3, d4] }
  | _ => none }
def FrameDictsWrongFalsely : Prop := frameDictsRow.holds Tryz.pinned (OpenSpec.ofChange frameDictsWrong)

/-- 'manglelaw8.FrameHeads': WHATEVER THE INPUT: true; the input reads as it did. -/
def frameHeadsSpec : ChangeSpec := { name := "frameHeads", fn := fun _ => fun
  | [d1, d2] => { results := [.lit (.bool true)], args := [d1, d2] }
  | _ => none }
def frameHeadsRow : OpenClaim := { program := "ytloopkmmpfghfaagreat", sum := "3c29cb7025b7fad3c069e9c96c72c5a29785ab8ae3803aec8fab06e6394f9aed", func := "mangle/manglelaw8.FrameHeads", spec := "frameHeads", inPlace := ["internal/bytealg.MakeNoZero"], unfollowed := true, recurses := true, apart := false }
def FrameHeadsSaid : Prop := frameHeadsRow.holds Tryz.pinned (OpenSpec.ofChange frameHeadsSpec)

/-- ITS FALSE NEIGHBOUR: 'it returns false'. Refute it at one input. -/
def frameHeadsWrong : ChangeSpec := { name := "frameHeads", fn := fun _ => fun
  | [d1, d2] => { results := [.lit (.bool false)], args := [d1, d2] }
  | _ => none }
def FrameHeadsWrongFalsely : Prop := frameHeadsRow.holds Tryz.pinned (OpenSpec.ofChange frameHeadsWrong)

/-- 'manglelaw8.FrameDict': WHATEVER THE INPUT: true; the input reads as it did. -/
def frameDictSpec : ChangeSpec := { name := "frameDict", fn := fun _ => fun
  | [d1, d2, d3] => { results := [.lit (.bool true)], args := [d1, d2, d3] }
  | _ => none }
def frameDictRow : OpenClaim := { program := "ytloopkmmpfghfaagreat", sum := "3c29cb7025b7fad3c069e9c96c72c5a29785ab8ae3803aec8fab06e6394f9aed", func := "mangle/manglelaw8.FrameDict", spec := "frameDict", inPlace := ["internal/bytealg.MakeNoZero"], unfollowed := true, recurses := true, apart := false }
def FrameDictSaid : Prop := frameDictRow.holds Tryz.pinned (OpenSpec.ofChange frameDictSpec)

/-- ITS FALSE NEIGHBOUR: 'it returns false'. Refute it at one input. -/
def frameDictWrong : ChangeSpec := { name := "frameDict", fn := fun _ => fun
  | [d1, d2, d3] => { results := [.lit (.bool false)], args := [d1, d2, d3] }
  | _ => none }
def FrameDictWrongFalsely : Prop := frameDictRow.holds Tryz.pinned (OpenSpec.ofChange frameDictWrong)

/-- 'manglelaw8.FrameOwn': WHATEVER THE INPUT: true; the input reads as it did. -/
def frameOwnSpec : ChangeSpec := { name := "frameOwn", fn := fun _ => fun
  | [d1, d2] => { results := [.lit (.bool true)], args := [d1, d2] }
  | _ => none }
def frameOwnRow : OpenClaim := { program := "ytloopkmmpfghfaagreat", sum := "3c29cb7025b7fad3c069e9c96c72c5a29785ab8ae3803aec8fab06e6394f9aed", func := "mangle/manglelaw8.FrameOwn", spec := "frameOwn", inPlace := ["internal/bytealg.MakeNoZero"], unfollowed := true, recurses := true, apart := false }
def FrameOwnSaid : Prop := frameOwnRow.holds Tryz.pinned (OpenSpec.ofChange frameOwnSpec)

/-- ITS FALSE NEIGHBOUR: 'it returns false'. Refute it at one input. -/
def frameOwnWrong : ChangeSpec := { name := "frameOwn", fn := fun _ => fun
  | [d1, d2] => { results := [.lit (.bool false)], args := [d1, d2] }
  | _ => none }
def FrameOwnWrongFalsely : Prop := frameOwnRow.holds Tryz.pinned (OpenSpec.ofChange frameOwnWrong)

/- THE SECOND FORM. 'bulk': how many values and letters a reading holds, each counted each time it is reached (what is shared counts as often as it is met; a slice's spare places count too). A statement '..UptoSaid' is the law's where the arguments, and the package variables that the reading takes, are together of bulk at most 1048576: NARROWER than '..Said'. Prove '..Said' where nothing that the law and all that it calls make is longer than what came in: it says more and counts as full. Else prove '..UptoSaid'. A law counts once. -/
mutual
def uptoBulk {H : Type} : DataW H → Nat
  | .lit (.string bytes) => bytes.length + 1
  | .lit _ => 1
  | .nil => 1
  | .ptr d => uptoBulk d + 1
  | .slice elems spare => uptoBulkAll elems + uptoBulkAll spare + 1
  | .agg parts => uptoBulkAll parts + 1
  | .iface _ d => uptoBulk d + 1
  | .map entries => uptoBulkEntries entries + 1
  | .held _ => 1
def uptoBulkAll {H : Type} : List (DataW H) → Nat
  | [] => 0
  | d :: r => uptoBulk d + uptoBulkAll r
def uptoBulkEntries {H : Type} : List (Lit × DataW H) → Nat
  | [] => 0
  | x :: r => uptoBulkEntry x + uptoBulkEntries r
def uptoBulkEntry {H : Type} : Lit × DataW H → Nat
  | (.string bytes, d) => bytes.length + uptoBulk d + 1
  | (_, d) => uptoBulk d + 1
 end
def uptoSmall : (H : Type) → List (DataW H) → Bool := fun _ ds => decide (uptoBulkAll ds ≤ 1048576)
def OpenSpec.upto (s : _root_.Go.ChangeSpec) : _root_.Go.OpenSpec := { _root_.Go.OpenSpec.ofChange s with cond := some uptoSmall }

/-- 'manglelaw8.FrameParts', WHERE WHAT IT READS IS OF BULK AT MOST 1048576: true; the input reads as it did. -/
def framePartsUptoRow : OpenClaim := { program := "ytloopkmmpfghfaagreat", sum := "3c29cb7025b7fad3c069e9c96c72c5a29785ab8ae3803aec8fab06e6394f9aed", func := "mangle/manglelaw8.FrameParts", spec := "frameParts", inPlace := ["internal/bytealg.MakeNoZero"], unfollowed := true, recurses := true, apart := false, narrowed := true }
def FramePartsUptoSaid : Prop := framePartsUptoRow.holds Tryz.pinned (OpenSpec.upto framePartsSpec)

/-- 'manglelaw8.FrameReads', WHERE WHAT IT READS IS OF BULK AT MOST 1048576: true; the input reads as it did. -/
def frameReadsUptoRow : OpenClaim := { program := "ytloopkmmpfghfaagreat", sum := "3c29cb7025b7fad3c069e9c96c72c5a29785ab8ae3803aec8fab06e6394f9aed", func := "mangle/manglelaw8.FrameReads", spec := "frameReads", inPlace := ["internal/bytealg.MakeNoZero"], unfollowed := true, recurses := true, apart := false, narrowed := true }
def FrameReadsUptoSaid : Prop := frameReadsUptoRow.holds Tryz.pinned (OpenSpec.upto frameReadsSpec)

/-- 'manglelaw8.FrameBack', WHERE WHAT IT READS IS OF BULK AT MOST 1048576: true; the input reads as it did. -/
def frameBackUptoRow : OpenClaim := { program := "ytloopkmmpfghfaagreat", sum := "3c29cb7025b7fad3c069e9c96c72c5a29785ab8ae3803aec8fab06e6394f9aed", func := "mangle/manglelaw8.FrameBack", spec := "frameBack", inPlace := ["internal/bytealg.MakeNoZero"], unfollowed := true, recurses := true, apart := false, narrowed := true }
def FrameBackUptoSaid : Prop := frameBackUptoRow.holds Tryz.pinned (OpenSpec.upto frameBackSpec)

/-- 'manglelaw8.FramePart', WHERE WHAT IT READS IS OF BULK AT MOST 1048576: true; the input reads as it did. -/
def framePartUptoRow : OpenClaim := { program := "ytloopkmmpfghfaagreat", sum := "3c29cb7025b7fad3c069e9c96c72c5a29785ab8ae3803aec8fab06e6394f9aed", func := "mangle/manglelaw8.FramePart", spec := "framePart", inPlace := ["internal/bytealg.MakeNoZero"], unfollowed := true, recurses := true, apart := false, narrowed := true }
def FramePartUptoSaid : Prop := framePartUptoRow.holds Tryz.pinned (OpenSpec.upto framePartSpec)

/-- 'manglelaw8.FrameTurned', WHERE WHAT IT READS IS OF BULK AT MOST 1048576: true; the input reads as it did. -/
def frameTurnedUptoRow : OpenClaim := { program := "ytloopkmmpfghfaagreat", sum := "3c29cb7025b7fad3c069e9c96c72c5a29785ab8ae3803aec8fab06e6394f9aed", func := "mangle/manglelaw8.FrameTurned", spec := "frameTurned", inPlace := ["internal/bytealg.MakeNoZero"], unfollowed := true, recurses := true, apart := false, narrowed := true }
def FrameTurnedUptoSaid : Prop := frameTurnedUptoRow.holds Tryz.pinned (OpenSpec.upto frameTurnedSpec)

/-- 'manglelaw8.FrameSums', WHERE WHAT IT READS IS OF BULK AT MOST 1048576: true; the input reads as it did. -/
def frameSumsUptoRow : OpenClaim := { program := "ytloopkmmpfghfaagreat", sum := "3c29cb7025b7fad3c069e9c96c72c5a29785ab8ae3803aec8fab06e6394f9aed", func := "mangle/manglelaw8.FrameSums", spec := "frameSums", inPlace := ["internal/bytealg.MakeNoZero"], unfollowed := true, recurses := true, apart := false, narrowed := true }
def FrameSumsUptoSaid : Prop := frameSumsUptoRow.holds Tryz.pinned (OpenSpec.upto frameSumsSpec)

/-- 'manglelaw8.FrameDicts', WHERE WHAT IT READS IS OF BULK AT MOST 1048576: true; the input reads as it did. -/
def frameDictsUptoRow : OpenClaim := { program := "ytloopkmmpfghfaagreat", sum := "3c29cb7025b7fad3c069e9c96c72c5a29785ab8ae3803aec8fab06e6394f9aed", func := "mangle/manglelaw8.FrameDicts", spec := "frameDicts", inPlace := ["internal/bytealg.MakeNoZero"], unfollowed := true, recurses := true, apart := false, narrowed := true }
def FrameDictsUptoSaid : Prop := frameDictsUptoRow.holds Tryz.pinned (OpenSpec.upto frameDictsSpec)

/-- 'manglelaw8.FrameHeads', WHERE WHAT IT READS IS OF BULK AT MOST 1048576: true; the input reads as it did. -/
def frameHeadsUptoRow : OpenClaim := { program := "ytloopkmmpfghfaagreat", sum := "3c29cb7025b7fad3c069e9c96c72c5a29785ab8ae3803aec8fab06e6394f9aed", func := "mangle/manglelaw8.FrameHeads", spec := "frameHeads", inPlace := ["internal/bytealg.MakeNoZero"], unfollowed := true, recurses := true, apart := false, narrowed := true }
def FrameHeadsUptoSaid : Prop := frameHeadsUptoRow.holds Tryz.pinned (OpenSpec.upto frameHeadsSpec)

/-- 'manglelaw8.FrameDict', WHERE WHAT IT READS IS OF BULK AT MOST 1048576: true; the input reads as it did. -/
def frameDictUptoRow : OpenClaim := { program := "ytloopkmmpfghfaagreat", sum := "3c29cb7025b7fad3c069e9c96c72c5a29785ab8ae3803aec8fab06e6394f9aed", func := "mangle/manglelaw8.FrameDict", spec := "frameDict", inPlace := ["internal/bytealg.MakeNoZero"], unfollowed := true, recurses := true, apart := false, narrowed := true }
def FrameDictUptoSaid : Prop := frameDictUptoRow.holds Tryz.pinned (OpenSpec.upto frameDictSpec)

/-- 'manglelaw8.FrameOwn', WHERE WHAT IT READS IS OF BULK AT MOST 1048576: true; the input reads as it did. -/
def frameOwnUptoRow : OpenClaim := { program := "ytloopkmmpfghfaagreat", sum := "3c29cb7025b7fad3c069e9c96c72c5a29785ab8ae3803aec8fab06e6394f9aed", func := "mangle/manglelaw8.FrameOwn", spec := "frameOwn", inPlace := ["internal/bytealg.MakeNoZero"], unfollowed := true, recurses := true, apart := false, narrowed := true }
def FrameOwnUptoSaid : Prop := frameOwnUptoRow.holds Tryz.pinned (OpenSpec.upto frameOwnSpec)

end Rows
end Go.Proofs.YtloopkmmpfghfaaGreat

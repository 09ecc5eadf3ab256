/-
  No cell of these rows narrows 'for every input' (looked for: loops, veiled, ifaces, maps, wideKeys, modest, calm, conditions, laid).
  DERIVED. THE GIVEN ROWS OF THIS SEAT. 13 by the template 'for every input the law returns true; each argument reads behind the call as it read before'; 0 by the template 'total and deterministic' (their statements: YtpfalaghggjbjaaTotals.lean).
  GIVEN WITH THE SEED: the statements are not yours to turn. If you find one false, say at which input.
  Laid BY PROGRAM, IN A SANDBOX (cutbox-rows.mjs): the forced cells as the released guide's own fill.sh prints them over the translation 9e8e050cbcc05527… (all of the seat's roots in one cut). By AI agents, Wed Nov 11 2026. No macro, syntax, notation, axiom, sorry.
-/
import Derived.Test.YtpfalaghggjbjaaChecked
import GoSem.Claim
import GoSem.ClaimJoined
import GoSem.ClaimMapViews
import Derived.JoinedTies
import Derived.KernelRfl
namespace Go.Proofs.Ytpfalaghggjbjaa
/- THE CELL 'sum', in the pinned program and in every row, IS THE sha256 OF THE DUMP (.gsa) THAT YtpfalaghggjbjaaProg.lean LOADS. Nothing in Lean hashes anything: it is a label: what it is worth is what the hold of that sum in a sandbox is worth. -/
noncomputable def Try.pinned : Pinned := { name := "ytpfalaghggjbjaa", sum := "9e8e050cbcc05527c5dd94f7081c8318a9edee9ea6810d31423078a43f3fcc32", checked := Try.checked }
namespace Rows
def none {H : Type} : Left H := { results := [], args := [] }

/-- 'sluicegatelaw05.DeflateCalls': WHATEVER THE INPUT: true; the input reads as it did. -/
def deflateCallsSpec : ChangeSpec := { name := "deflateCalls", fn := fun _ => fun
  | [d] => { results := [.lit (.bool true)], args := [d] }
  | _ => none }
def deflateCallsRow : OpenClaim := { program := "ytpfalaghggjbjaa", sum := "9e8e050cbcc05527c5dd94f7081c8318a9edee9ea6810d31423078a43f3fcc32", func := "sluicegate/sluicegatelaw05.DeflateCalls", spec := "deflateCalls", unfollowed := true, recurses := true, plainKeys := false, apart := false }
def DeflateCallsSaid : Prop := deflateCallsRow.holds Try.pinned (OpenSpec.ofChange deflateCallsSpec)

/-- ITS FALSE NEIGHBOUR: 'it returns false'. Refute it at one input. -/
def deflateCallsWrong : ChangeSpec := { name := "deflateCalls", fn := fun _ => fun
  | [d] => { results := [.lit (.bool false)], args := [d] }
  | _ => none }
def DeflateCallsWrongFalsely : Prop := deflateCallsRow.holds Try.pinned (OpenSpec.ofChange deflateCallsWrong)

/-- 'sluicegatelaw05.DeflateGreedy': WHATEVER THE INPUT: true; the input reads as it did. -/
def deflateGreedySpec : ChangeSpec := { name := "deflateGreedy", fn := fun _ => fun
  | [d] => { results := [.lit (.bool true)], args := [d] }
  | _ => none }
def deflateGreedyRow : OpenClaim := { program := "ytpfalaghggjbjaa", sum := "9e8e050cbcc05527c5dd94f7081c8318a9edee9ea6810d31423078a43f3fcc32", func := "sluicegate/sluicegatelaw05.DeflateGreedy", spec := "deflateGreedy", unfollowed := true, recurses := true, plainKeys := false, apart := false }
def DeflateGreedySaid : Prop := deflateGreedyRow.holds Try.pinned (OpenSpec.ofChange deflateGreedySpec)

/-- ITS FALSE NEIGHBOUR: 'it returns false'. Refute it at one input. -/
def deflateGreedyWrong : ChangeSpec := { name := "deflateGreedy", fn := fun _ => fun
  | [d] => { results := [.lit (.bool false)], args := [d] }
  | _ => none }
def DeflateGreedyWrongFalsely : Prop := deflateGreedyRow.holds Try.pinned (OpenSpec.ofChange deflateGreedyWrong)

/-- 'sluicegatelaw10.SqueezeCalls': WHATEVER THE INPUT: true; the input reads as it did. -/
def squeezeCallsSpec : ChangeSpec := { name := "squeezeCalls", fn := fun _ => fun
  | [d1, d2, d3, d4] => { results := [.lit (.bool true)], args := [d1, d2, d3, d4] }
  | _ => none }
def squeezeCallsRow : OpenClaim := { program := "ytpfalaghggjbjaa", sum := "9e8e050cbcc05527c5dd94f7081c8318a9edee9ea6810d31423078a43f3fcc32", func := "sluicegate/sluicegatelaw10.SqueezeCalls", spec := "squeezeCalls", unfollowed := true, recurses := true, plainKeys := false, apart := false }
def SqueezeCallsSaid : Prop := squeezeCallsRow.holds Try.pinned (OpenSpec.ofChange squeezeCallsSpec)

/-- ITS FALSE NEIGHBOUR: 'it returns false'. Refute it at one input. -/
def squeezeCallsWrong : ChangeSpec := { name := "squeezeCalls", fn := fun _ => fun
  | [d1, d2, d3, d4] => { results := [.lit (.bool false)], args := [d1, d2, d3, d4] }
  | _ => none }
def SqueezeCallsWrongFalsely : Prop := squeezeCallsRow.holds Try.pinned (OpenSpec.ofChange squeezeCallsWrong)

/-- 'sluicegatelaw04.InflateEnds': WHATEVER THE INPUT: true; the input reads as it did. -/
def inflateEndsSpec : ChangeSpec := { name := "inflateEnds", fn := fun _ => fun
  | [d1, d2] => { results := [.lit (.bool true)], args := [d1, d2] }
  | _ => none }
def inflateEndsRow : OpenClaim := { program := "ytpfalaghggjbjaa", sum := "9e8e050cbcc05527c5dd94f7081c8318a9edee9ea6810d31423078a43f3fcc32", func := "sluicegate/sluicegatelaw04.InflateEnds", spec := "inflateEnds", unfollowed := true, recurses := true, plainKeys := false, apart := false }
def InflateEndsSaid : Prop := inflateEndsRow.holds Try.pinned (OpenSpec.ofChange inflateEndsSpec)

/-- ITS FALSE NEIGHBOUR: 'it returns false'. Refute it at one input. -/
def inflateEndsWrong : ChangeSpec := { name := "inflateEnds", fn := fun _ => fun
  | [d1, d2] => { results := [.lit (.bool false)], args := [d1, d2] }
  | _ => none }
def InflateEndsWrongFalsely : Prop := inflateEndsRow.holds Try.pinned (OpenSpec.ofChange inflateEndsWrong)

/-- 'sluicegatelaw04.InflateBlocks': WHATEVER THE INPUT: true; the input reads as it did. -/
def inflateBlocksSpec : ChangeSpec := { name := "inflateBlocks", fn := fun _ => fun
  | [d] => { results := [.lit (.bool true)], args := [d] }
  | _ => none }
def inflateBlocksRow : OpenClaim := { program := "ytpfalaghggjbjaa", sum := "9e8e050cbcc05527c5dd94f7081c8318a9edee9ea6810d31423078a43f3fcc32", func := "sluicegate/sluicegatelaw04.InflateBlocks", spec := "inflateBlocks", unfollowed := true, recurses := true, plainKeys := false, apart := false }
def InflateBlocksSaid : Prop := inflateBlocksRow.holds Try.pinned (OpenSpec.ofChange inflateBlocksSpec)

/-- ITS FALSE NEIGHBOUR: 'it returns false'. Refute it at one input. -/
def inflateBlocksWrong : ChangeSpec := { name := "inflateBlocks", fn := fun _ => fun
  | [d] => { results := [.lit (.bool false)], args := [d] }
  | _ => none }
def InflateBlocksWrongFalsely : Prop := inflateBlocksRow.holds Try.pinned (OpenSpec.ofChange inflateBlocksWrong)

/-- 'sluicegatelaw05.DeflateBack': WHATEVER THE INPUT: true; the input reads as it did. -/
def deflateBackSpec : ChangeSpec := { name := "deflateBack", fn := fun _ => fun
  | [d] => { results := [.lit (.bool true)], args := [d] }
  | _ => none }
def deflateBackRow : OpenClaim := { program := "ytpfalaghggjbjaa", sum := "9e8e050cbcc05527c5dd94f7081c8318a9edee9ea6810d31423078a43f3fcc32", func := "sluicegate/sluicegatelaw05.DeflateBack", spec := "deflateBack", unfollowed := true, recurses := true, plainKeys := false, apart := false }
def DeflateBackSaid : Prop := deflateBackRow.holds Try.pinned (OpenSpec.ofChange deflateBackSpec)

/-- ITS FALSE NEIGHBOUR: 'it returns false'. Refute it at one input. -/
def deflateBackWrong : ChangeSpec := { name := "deflateBack", fn := fun _ => fun
  | [d] => { results := [.lit (.bool false)], args := [d] }
  | _ => none }
def DeflateBackWrongFalsely : Prop := deflateBackRow.holds Try.pinned (OpenSpec.ofChange deflateBackWrong)

/-- 'sluicegatelaw05.DeflateAny': WHATEVER THE INPUT: true; the input reads as it did. -/
def deflateAnySpec : ChangeSpec := { name := "deflateAny", fn := fun _ => fun
  | [d] => { results := [.lit (.bool true)], args := [d] }
  | _ => none }
def deflateAnyRow : OpenClaim := { program := "ytpfalaghggjbjaa", sum := "9e8e050cbcc05527c5dd94f7081c8318a9edee9ea6810d31423078a43f3fcc32", func := "sluicegate/sluicegatelaw05.DeflateAny", spec := "deflateAny", unfollowed := true, recurses := true, plainKeys := false, apart := false }
def DeflateAnySaid : Prop := deflateAnyRow.holds Try.pinned (OpenSpec.ofChange deflateAnySpec)

/-- ITS FALSE NEIGHBOUR: 'it returns false'. Refute it at one input. -/
def deflateAnyWrong : ChangeSpec := { name := "deflateAny", fn := fun _ => fun
  | [d] => { results := [.lit (.bool false)], args := [d] }
  | _ => none }
def DeflateAnyWrongFalsely : Prop := deflateAnyRow.holds Try.pinned (OpenSpec.ofChange deflateAnyWrong)

/-- 'sluicegatelaw06.ZlibCalls': WHATEVER THE INPUT: true; the input reads as it did. -/
def zlibCallsSpec : ChangeSpec := { name := "zlibCalls", fn := fun _ => fun
  | [d1, d2] => { results := [.lit (.bool true)], args := [d1, d2] }
  | _ => none }
def zlibCallsRow : OpenClaim := { program := "ytpfalaghggjbjaa", sum := "9e8e050cbcc05527c5dd94f7081c8318a9edee9ea6810d31423078a43f3fcc32", func := "sluicegate/sluicegatelaw06.ZlibCalls", spec := "zlibCalls", unfollowed := true, recurses := true, plainKeys := false, apart := false }
def ZlibCallsSaid : Prop := zlibCallsRow.holds Try.pinned (OpenSpec.ofChange zlibCallsSpec)

/-- ITS FALSE NEIGHBOUR: 'it returns false'. Refute it at one input. -/
def zlibCallsWrong : ChangeSpec := { name := "zlibCalls", fn := fun _ => fun
  | [d1, d2] => { results := [.lit (.bool false)], args := [d1, d2] }
  | _ => none }
def ZlibCallsWrongFalsely : Prop := zlibCallsRow.holds Try.pinned (OpenSpec.ofChange zlibCallsWrong)

/-- 'sluicegatelaw06.ZlibBack': WHATEVER THE INPUT: true; the input reads as it did. -/
def zlibBackSpec : ChangeSpec := { name := "zlibBack", fn := fun _ => fun
  | [d1, d2] => { results := [.lit (.bool true)], args := [d1, d2] }
  | _ => none }
def zlibBackRow : OpenClaim := { program := "ytpfalaghggjbjaa", sum := "9e8e050cbcc05527c5dd94f7081c8318a9edee9ea6810d31423078a43f3fcc32", func := "sluicegate/sluicegatelaw06.ZlibBack", spec := "zlibBack", unfollowed := true, recurses := true, plainKeys := false, apart := false }
def ZlibBackSaid : Prop := zlibBackRow.holds Try.pinned (OpenSpec.ofChange zlibBackSpec)

/-- ITS FALSE NEIGHBOUR: 'it returns false'. Refute it at one input. -/
def zlibBackWrong : ChangeSpec := { name := "zlibBack", fn := fun _ => fun
  | [d1, d2] => { results := [.lit (.bool false)], args := [d1, d2] }
  | _ => none }
def ZlibBackWrongFalsely : Prop := zlibBackRow.holds Try.pinned (OpenSpec.ofChange zlibBackWrong)

/-- 'sluicegatelaw06.ZlibTurned': WHATEVER THE INPUT: true; the input reads as it did. -/
def zlibTurnedSpec : ChangeSpec := { name := "zlibTurned", fn := fun _ => fun
  | [d1, d2] => { results := [.lit (.bool true)], args := [d1, d2] }
  | _ => none }
def zlibTurnedRow : OpenClaim := { program := "ytpfalaghggjbjaa", sum := "9e8e050cbcc05527c5dd94f7081c8318a9edee9ea6810d31423078a43f3fcc32", func := "sluicegate/sluicegatelaw06.ZlibTurned", spec := "zlibTurned", unfollowed := true, recurses := true, plainKeys := false, apart := false }
def ZlibTurnedSaid : Prop := zlibTurnedRow.holds Try.pinned (OpenSpec.ofChange zlibTurnedSpec)

/-- ITS FALSE NEIGHBOUR: 'it returns false'. Refute it at one input. -/
def zlibTurnedWrong : ChangeSpec := { name := "zlibTurned", fn := fun _ => fun
  | [d1, d2] => { results := [.lit (.bool false)], args := [d1, d2] }
  | _ => none }
def ZlibTurnedWrongFalsely : Prop := zlibTurnedRow.holds Try.pinned (OpenSpec.ofChange zlibTurnedWrong)

/-- 'sluicegatelaw06.ZlibWhole': WHATEVER THE INPUT: true; the input reads as it did. -/
def zlibWholeSpec : ChangeSpec := { name := "zlibWhole", fn := fun _ => fun
  | [d1, d2] => { results := [.lit (.bool true)], args := [d1, d2] }
  | _ => none }
def zlibWholeRow : OpenClaim := { program := "ytpfalaghggjbjaa", sum := "9e8e050cbcc05527c5dd94f7081c8318a9edee9ea6810d31423078a43f3fcc32", func := "sluicegate/sluicegatelaw06.ZlibWhole", spec := "zlibWhole", unfollowed := true, recurses := true, plainKeys := false, apart := false }
def ZlibWholeSaid : Prop := zlibWholeRow.holds Try.pinned (OpenSpec.ofChange zlibWholeSpec)

/-- ITS FALSE NEIGHBOUR: 'it returns false'. Refute it at one input. -/
def zlibWholeWrong : ChangeSpec := { name := "zlibWhole", fn := fun _ => fun
  | [d1, d2] => { results := [.lit (.bool false)], args := [d1, d2] }
  | _ => none }
def ZlibWholeWrongFalsely : Prop := zlibWholeRow.holds Try.pinned (OpenSpec.ofChange zlibWholeWrong)

/-- 'sluicegatelaw10.SqueezeBack': WHATEVER THE INPUT: true; the input reads as it did. -/
def squeezeBackSpec : ChangeSpec := { name := "squeezeBack", fn := fun _ => fun
  | [d1, d2, d3, d4, d5] => { results := [.lit (.bool true)], args := [d1, d2, d3, d4, d5] }
  | _ => none }
def squeezeBackRow : OpenClaim := { program := "ytpfalaghggjbjaa", sum := "9e8e050cbcc05527c5dd94f7081c8318a9edee9ea6810d31423078a43f3fcc32", func := "sluicegate/sluicegatelaw10.SqueezeBack", spec := "squeezeBack", unfollowed := true, recurses := true, plainKeys := false, apart := false }
def SqueezeBackSaid : Prop := squeezeBackRow.holds Try.pinned (OpenSpec.ofChange squeezeBackSpec)

/-- ITS FALSE NEIGHBOUR: 'it returns false'. Refute it at one input. -/
def squeezeBackWrong : ChangeSpec := { name := "squeezeBack", fn := fun _ => fun
  | [d1, d2, d3, d4, d5] => { results := [.lit (.bool false)], args := [d1, d2, d3, d4, d5] }
  | _ => none }
def SqueezeBackWrongFalsely : Prop := squeezeBackRow.holds Try.pinned (OpenSpec.ofChange squeezeBackWrong)

/-- 'sluicegatelaw10.SqueezeFrames': WHATEVER THE INPUT: true; the input reads as it did. -/
def squeezeFramesSpec : ChangeSpec := { name := "squeezeFrames", fn := fun _ => fun
  | [d1, d2, d3, d4] => { results := [.lit (.bool true)], args := [d1, d2, d3, d4] }
  | _ => none }
def squeezeFramesRow : OpenClaim := { program := "ytpfalaghggjbjaa", sum := "9e8e050cbcc05527c5dd94f7081c8318a9edee9ea6810d31423078a43f3fcc32", func := "sluicegate/sluicegatelaw10.SqueezeFrames", spec := "squeezeFrames", unfollowed := true, recurses := true, plainKeys := false, apart := false }
def SqueezeFramesSaid : Prop := squeezeFramesRow.holds Try.pinned (OpenSpec.ofChange squeezeFramesSpec)

/-- ITS FALSE NEIGHBOUR: 'it returns false'. Refute it at one input. -/
def squeezeFramesWrong : ChangeSpec := { name := "squeezeFrames", fn := fun _ => fun
  | [d1, d2, d3, d4] => { results := [.lit (.bool false)], args := [d1, d2, d3, d4] }
  | _ => none }
def SqueezeFramesWrongFalsely : Prop := squeezeFramesRow.holds Try.pinned (OpenSpec.ofChange squeezeFramesWrong)

/- THE SECOND FORM. 'bulk': how many values and letters a reading holds, each counted each time it is reached (what is shared counts as often as it is met; a slice's spare places count too). A statement '..UptoSaid' is the law's where the arguments, and the package variables that the reading takes, are together of bulk at most 1048576: NARROWER than '..Said'. Prove '..Said' where nothing that the law and all that it calls make is longer than what came in: it says more and counts as full. Else prove '..UptoSaid'. A law counts once. -/
mutual
def uptoBulk {H : Type} : DataW H → Nat
  | .lit (.string bytes) => bytes.length + 1
  | .lit _ => 1
  | .nil => 1
  | .ptr d => uptoBulk d + 1
  | .slice elems spare => uptoBulkAll elems + uptoBulkAll spare + 1
  | .agg parts => uptoBulkAll parts + 1
  | .iface _ d => uptoBulk d + 1
  | .map entries => uptoBulkEntries entries + 1
  | .held _ => 1
def uptoBulkAll {H : Type} : List (DataW H) → Nat
  | [] => 0
  | d :: r => uptoBulk d + uptoBulkAll r
def uptoBulkEntries {H : Type} : List (Lit × DataW H) → Nat
  | [] => 0
  | x :: r => uptoBulkEntry x + uptoBulkEntries r
def uptoBulkEntry {H : Type} : Lit × DataW H → Nat
  | (.string bytes, d) => bytes.length + uptoBulk d + 1
  | (_, d) => uptoBulk d + 1
 end
def uptoSmall : (H : Type) → List (DataW H) → Bool := fun _ ds => decide (uptoBulkAll ds ≤ 1048576)
def OpenSpec.upto (s : _root_.Go.ChangeSpec) : _root_.Go.OpenSpec := { _root_.Go.OpenSpec.ofChange s with cond := some uptoSmall }

/-- 'sluicegatelaw05.DeflateCalls', WHERE WHAT IT READS IS OF BULK AT MOST 1048576: true; the input reads as it did. -/
def deflateCallsUptoRow : OpenClaim := { program := "ytpfalaghggjbjaa", sum := "9e8e050cbcc05527c5dd94f7081c8318a9edee9ea6810d31423078a43f3fcc32", func := "sluicegate/sluicegatelaw05.DeflateCalls", spec := "deflateCalls", unfollowed := true, recurses := true, plainKeys := false, apart := false, narrowed := true }
def DeflateCallsUptoSaid : Prop := deflateCallsUptoRow.holds Try.pinned (OpenSpec.upto deflateCallsSpec)

/-- 'sluicegatelaw05.DeflateGreedy', WHERE WHAT IT READS IS OF BULK AT MOST 1048576: true; the input reads as it did. -/
def deflateGreedyUptoRow : OpenClaim := { program := "ytpfalaghggjbjaa", sum := "9e8e050cbcc05527c5dd94f7081c8318a9edee9ea6810d31423078a43f3fcc32", func := "sluicegate/sluicegatelaw05.DeflateGreedy", spec := "deflateGreedy", unfollowed := true, recurses := true, plainKeys := false, apart := false, narrowed := true }
def DeflateGreedyUptoSaid : Prop := deflateGreedyUptoRow.holds Try.pinned (OpenSpec.upto deflateGreedySpec)

/-- 'sluicegatelaw10.SqueezeCalls', WHERE WHAT IT READS IS OF BULK AT MOST 1048576: true; the input reads as it did. -/
def squeezeCallsUptoRow : OpenClaim := { program := "ytpfalaghggjbjaa", sum := "9e8e050cbcc05527c5dd94f7081c8318a9edee9ea6810d31423078a43f3fcc32", func := "sluicegate/sluicegatelaw10.SqueezeCalls", spec := "squeezeCalls", unfollowed := true, recurses := true, plainKeys := false, apart := false, narrowed := true }
def SqueezeCallsUptoSaid : Prop := squeezeCallsUptoRow.holds Try.pinned (OpenSpec.upto squeezeCallsSpec)

/-- 'sluicegatelaw04.InflateEnds', WHERE WHAT IT READS IS OF BULK AT MOST 1048576: true; the input reads as it did. -/
def inflateEndsUptoRow : OpenClaim := { program := "ytpfalaghggjbjaa", sum := "9e8e050cbcc05527c5dd94f7081c8318a9edee9ea6810d31423078a43f3fcc32", func := "sluicegate/sluicegatelaw04.InflateEnds", spec := "inflateEnds", unfollowed := true, recurses := true, plainKeys := false, apart := false, narrowed := true }
def InflateEndsUptoSaid : Prop := inflateEndsUptoRow.holds Try.pinned (OpenSpec.upto inflateEndsSpec)

/-- 'sluicegatelaw04.InflateBlocks', WHERE WHAT IT READS IS OF BULK AT MOST 1048576: true; the input reads as it did. -/
def inflateBlocksUptoRow : OpenClaim := { program := "ytpfalaghggjbjaa", sum := "9e8e050cbcc05527c5dd94f7081c8318a9edee9ea6810d31423078a43f3fcc32", func := "sluicegate/sluicegatelaw04.InflateBlocks", spec := "inflateBlocks", unfollowed := true, recurses := true, plainKeys := false, apart := false, narrowed := true }
def InflateBlocksUptoSaid : Prop := inflateBlocksUptoRow.holds Try.pinned (OpenSpec.upto inflateBlocksSpec)

/-- 'sluicegatelaw05.DeflateBack', WHERE WHAT IT READS IS OF BULK AT MOST 1048576: true; the input reads as it did. -/
def deflateBackUptoRow : OpenClaim := { program := "ytpfalaghggjbjaa", sum := "9e8e050cbcc05527c5dd94f7081c8318a9edee9ea6810d31423078a43f3fcc32", func := "sluicegate/sluicegatelaw05.DeflateBack", spec := "deflateBack", unfollowed := true, recurses := true, plainKeys := false, apart := false, narrowed := true }
def DeflateBackUptoSaid : Prop := deflateBackUptoRow.holds Try.pinned (OpenSpec.upto deflateBackSpec)

/-- 'sluicegatelaw05.DeflateAny', WHERE WHAT IT READS IS OF BULK AT MOST 1048576: true; the input reads as it did. -/
def deflateAnyUptoRow : OpenClaim := { program := "ytpfalaghggjbjaa", sum := "9e8e050cbcc05527c5dd94f7081c8318a9edee9ea6810d31423078a43f3fcc32", func := "sluicegate/sluicegatelaw05.DeflateAny", spec := "deflateAny", unfollowed := true, recurses := true, plainKeys := false, apart := false, narrowed := true }
def DeflateAnyUptoSaid : Prop := deflateAnyUptoRow.holds Try.pinned (OpenSpec.upto deflateAnySpec)

/-- 'sluicegatelaw06.ZlibCalls', WHERE WHAT IT READS IS OF BULK AT MOST 1048576: true; the input reads as it did. -/
def zlibCallsUptoRow : OpenClaim := { program := "ytpfalaghggjbjaa", sum := "9e8e050cbcc05527c5dd94f7081c8318a9edee9ea6810d31423078a43f3fcc32", func := "sluicegate/sluicegatelaw06.ZlibCalls", spec := "zlibCalls", unfollowed := true, recurses := true, plainKeys := false, apart := false, narrowed := true }
def ZlibCallsUptoSaid : Prop := zlibCallsUptoRow.holds Try.pinned (OpenSpec.upto zlibCallsSpec)

/-- 'sluicegatelaw06.ZlibBack', WHERE WHAT IT READS IS OF BULK AT MOST 1048576: true; the input reads as it did. -/
def zlibBackUptoRow : OpenClaim := { program := "ytpfalaghggjbjaa", sum := "9e8e050cbcc05527c5dd94f7081c8318a9edee9ea6810d31423078a43f3fcc32", func := "sluicegate/sluicegatelaw06.ZlibBack", spec := "zlibBack", unfollowed := true, recurses := true, plainKeys := false, apart := false, narrowed := true }
def ZlibBackUptoSaid : Prop := zlibBackUptoRow.holds Try.pinned (OpenSpec.upto zlibBackSpec)

/-- 'sluicegatelaw06.ZlibTurned', WHERE WHAT IT READS IS OF BULK AT MOST 1048576: true; the input reads as it did. -/
def zlibTurnedUptoRow : OpenClaim := { program := "ytpfalaghggjbjaa", sum := "9e8e050cbcc05527c5dd94f7081c8318a9edee9ea6810d31423078a43f3fcc32", func := "sluicegate/sluicegatelaw06.ZlibTurned", spec := "zlibTurned", unfollowed := true, recurses := true, plainKeys := false, apart := false, narrowed := true }
def ZlibTurnedUptoSaid : Prop := zlibTurnedUptoRow.holds Try.pinned (OpenSpec.upto zlibTurnedSpec)

/-- 'sluicegatelaw06.ZlibWhole', WHERE WHAT IT READS IS OF BULK AT MOST 1048576: true; the input reads as it did. -/
def zlibWholeUptoRow : OpenClaim := { program := "ytpfalaghggjbjaa", sum := "9e8e050cbcc05527c5dd94f7081c8318a9edee9ea6810d31423078a43f3fcc32", func := "sluicegate/sluicegatelaw06.ZlibWhole", spec := "zlibWhole", unfollowed := true, recurses := true, plainKeys := false, apart := false, narrowed := true }
def ZlibWholeUptoSaid : Prop := zlibWholeUptoRow.holds Try.pinned (OpenSpec.upto zlibWholeSpec)

/-- 'sluicegatelaw10.SqueezeBack', WHERE WHAT IT READS IS OF BULK AT MOST 1048576: true; the input reads as it did. -/
def squeezeBackUptoRow : OpenClaim := { program := "ytpfalaghggjbjaa", sum := "9e8e050cbcc05527c5dd94f7081c8318a9edee9ea6810d31423078a43f3fcc32", func := "sluicegate/sluicegatelaw10.SqueezeBack", spec := "squeezeBack", unfollowed := true, recurses := true, plainKeys := false, apart := false, narrowed := true }
def SqueezeBackUptoSaid : Prop := squeezeBackUptoRow.holds Try.pinned (OpenSpec.upto squeezeBackSpec)

/-- 'sluicegatelaw10.SqueezeFrames', WHERE WHAT IT READS IS OF BULK AT MOST 1048576: true; the input reads as it did. -/
def squeezeFramesUptoRow : OpenClaim := { program := "ytpfalaghggjbjaa", sum := "9e8e050cbcc05527c5dd94f7081c8318a9edee9ea6810d31423078a43f3fcc32", func := "sluicegate/sluicegatelaw10.SqueezeFrames", spec := "squeezeFrames", unfollowed := true, recurses := true, plainKeys := false, apart := false, narrowed := true }
def SqueezeFramesUptoSaid : Prop := squeezeFramesUptoRow.holds Try.pinned (OpenSpec.upto squeezeFramesSpec)

end Rows
end Go.Proofs.Ytpfalaghggjbjaa

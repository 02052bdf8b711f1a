/-
  No cell of these rows narrows 'for every input' (looked for: loops, veiled, ifaces, maps, wideKeys, modest, calm, conditions, laid).
  DERIVED. THE GIVEN ROWS OF THIS SEAT. 7 by the template 'for every input the law returns true; each argument reads behind the call as it read before'; 0 by the template 'total and deterministic' (their statements: YtmmkopdijmplcaaTotals.lean).
  GIVEN WITH THE SEED: the statements are not yours to turn. If you find one false, say at which input.
  Laid BY PROGRAM, IN A SANDBOX (cutbox-rows.mjs): the forced cells as the released guide's own fill.sh prints them over the translation 1f1b8dd7b09d8803… (all of the seat's roots in one cut). By AI agents, Wed Nov 11 2026. No macro, syntax, notation, axiom, sorry.
-/
import Derived.Test.YtmmkopdijmplcaaChecked
import GoSem.Claim
import GoSem.ClaimJoined
import GoSem.ClaimMapViews
import Derived.JoinedTies
import Derived.KernelRfl
namespace Go.Proofs.Ytmmkopdijmplcaa
/- THE CELL 'sum', in the pinned program and in every row, IS THE sha256 OF THE DUMP (.gsa) THAT YtmmkopdijmplcaaProg.lean LOADS. Nothing in Lean hashes anything: it is a label: what it is worth is what the hold of that sum in a sandbox is worth. -/
noncomputable def Try.pinned : Pinned := { name := "ytmmkopdijmplcaa", sum := "1f1b8dd7b09d8803064f185322eb8edcc6270416fe1f80cddc614d5180476c47", checked := Try.checked }
namespace Rows
def none {H : Type} : Left H := { results := [], args := [] }

/-- 'castellantop.TopSeals': WHATEVER THE INPUT: true; the input reads as it did. -/
def topSealsSpec : ChangeSpec := { name := "topSeals", fn := fun _ => fun
  | [d1, d2, d3] => { results := [.lit (.bool true)], args := [d1, d2, d3] }
  | _ => none }
def topSealsRow : OpenClaim := { program := "ytmmkopdijmplcaa", sum := "1f1b8dd7b09d8803064f185322eb8edcc6270416fe1f80cddc614d5180476c47", func := "castellan/castellantop.TopSeals", spec := "topSeals", inPlace := ["internal/bytealg.MakeNoZero"], unfollowed := true, recurses := true, apart := false }
def TopSealsSaid : Prop := topSealsRow.holds Try.pinned (OpenSpec.ofChange topSealsSpec)

/-- ITS FALSE NEIGHBOUR: 'it returns false'. Refute it at one input. -/
def topSealsWrong : ChangeSpec := { name := "topSeals", fn := fun _ => fun
  | [d1, d2, d3] => { results := [.lit (.bool false)], args := [d1, d2, d3] }
  | _ => none }
def TopSealsWrongFalsely : Prop := topSealsRow.holds Try.pinned (OpenSpec.ofChange topSealsWrong)

/-- 'castellantop.TopLine': WHATEVER THE INPUT: true; the input reads as it did. -/
def topLineSpec : ChangeSpec := { name := "topLine", fn := fun _ => fun
  | [d] => { results := [.lit (.bool true)], args := [d] }
  | _ => none }
def topLineRow : OpenClaim := { program := "ytmmkopdijmplcaa", sum := "1f1b8dd7b09d8803064f185322eb8edcc6270416fe1f80cddc614d5180476c47", func := "castellan/castellantop.TopLine", spec := "topLine", inPlace := ["internal/bytealg.MakeNoZero"], unfollowed := true, recurses := true, apart := false }
def TopLineSaid : Prop := topLineRow.holds Try.pinned (OpenSpec.ofChange topLineSpec)

/-- ITS FALSE NEIGHBOUR: 'it returns false'. Refute it at one input. -/
def topLineWrong : ChangeSpec := { name := "topLine", fn := fun _ => fun
  | [d] => { results := [.lit (.bool false)], args := [d] }
  | _ => none }
def TopLineWrongFalsely : Prop := topLineRow.holds Try.pinned (OpenSpec.ofChange topLineWrong)

/-- 'castellanlaw19.FrameTells': WHATEVER THE INPUT: true; the input reads as it did. -/
def frameTellsSpec : ChangeSpec := { name := "frameTells", fn := fun _ => fun
  | [d1, d2, d3] => { results := [.lit (.bool true)], args := [d1, d2, d3] }
  | _ => none }
def frameTellsRow : OpenClaim := { program := "ytmmkopdijmplcaa", sum := "1f1b8dd7b09d8803064f185322eb8edcc6270416fe1f80cddc614d5180476c47", func := "castellan/castellanlaw19.FrameTells", spec := "frameTells", inPlace := ["internal/bytealg.MakeNoZero"], unfollowed := true, recurses := true, apart := false }
def FrameTellsSaid : Prop := frameTellsRow.holds Try.pinned (OpenSpec.ofChange frameTellsSpec)

/-- ITS FALSE NEIGHBOUR: 'it returns false'. Refute it at one input. -/
def frameTellsWrong : ChangeSpec := { name := "frameTells", fn := fun _ => fun
  | [d1, d2, d3] => { results := [.lit (.bool false)], args := [d1, d2, d3] }
  | _ => none }
def FrameTellsWrongFalsely : Prop := frameTellsRow.holds Try.pinned (OpenSpec.ofChange frameTellsWrong)

/-- 'castellanlaw19.FrameBack': WHATEVER THE INPUT: true; the input reads as it did. -/
def frameBackSpec : ChangeSpec := { name := "frameBack", fn := fun _ => fun
  | [d1, d2, d3] => { results := [.lit (.bool true)], args := [d1, d2, d3] }
  | _ => none }
def frameBackRow : OpenClaim := { program := "ytmmkopdijmplcaa", sum := "1f1b8dd7b09d8803064f185322eb8edcc6270416fe1f80cddc614d5180476c47", func := "castellan/castellanlaw19.FrameBack", spec := "frameBack", inPlace := ["internal/bytealg.MakeNoZero"], unfollowed := true, recurses := true, apart := false }
def FrameBackSaid : Prop := frameBackRow.holds Try.pinned (OpenSpec.ofChange frameBackSpec)

/-- ITS FALSE NEIGHBOUR: 'it returns false'. Refute it at one input. -/
def frameBackWrong : ChangeSpec := { name := "frameBack", fn := fun _ => fun
  | [d1, d2, d3] => { results := [.lit (.bool false)], args := [d1, d2, d3] }
  | _ => none }
def FrameBackWrongFalsely : Prop := frameBackRow.holds Try.pinned (OpenSpec.ofChange frameBackWrong)

/-- 'castellanlaw19.FrameStreams': WHATEVER THE INPUT: true; the input reads as it did. -/
def frameStreamsSpec : ChangeSpec := { name := "frameStreams", fn := fun _ => fun
  | [d1, d2, d3] => { results := [.lit (.bool true)], args := [d1, d2, d3] }
  | _ => none }
def frameStreamsRow : OpenClaim := { program := "ytmmkopdijmplcaa", sum := "1f1b8dd7b09d8803064f185322eb8edcc6270416fe1f80cddc614d5180476c47", func := "castellan/castellanlaw19.FrameStreams", spec := "frameStreams", inPlace := ["internal/bytealg.MakeNoZero"], unfollowed := true, recurses := true, apart := false }
def FrameStreamsSaid : Prop := frameStreamsRow.holds Try.pinned (OpenSpec.ofChange frameStreamsSpec)

/-- ITS FALSE NEIGHBOUR: 'it returns false'. Refute it at one input. -/
def frameStreamsWrong : ChangeSpec := { name := "frameStreams", fn := fun _ => fun
  | [d1, d2, d3] => { results := [.lit (.bool false)], args := [d1, d2, d3] }
  | _ => none }
def FrameStreamsWrongFalsely : Prop := frameStreamsRow.holds Try.pinned (OpenSpec.ofChange frameStreamsWrong)

/-- 'castellanlaw19.FrameWindows': WHATEVER THE INPUT: true; the input reads as it did. -/
def frameWindowsSpec : ChangeSpec := { name := "frameWindows", fn := fun _ => fun
  | [d1, d2] => { results := [.lit (.bool true)], args := [d1, d2] }
  | _ => none }
def frameWindowsRow : OpenClaim := { program := "ytmmkopdijmplcaa", sum := "1f1b8dd7b09d8803064f185322eb8edcc6270416fe1f80cddc614d5180476c47", func := "castellan/castellanlaw19.FrameWindows", spec := "frameWindows", inPlace := ["internal/bytealg.MakeNoZero"], unfollowed := true, recurses := true, apart := false }
def FrameWindowsSaid : Prop := frameWindowsRow.holds Try.pinned (OpenSpec.ofChange frameWindowsSpec)

/-- ITS FALSE NEIGHBOUR: 'it returns false'. Refute it at one input. -/
def frameWindowsWrong : ChangeSpec := { name := "frameWindows", fn := fun _ => fun
  | [d1, d2] => { results := [.lit (.bool false)], args := [d1, d2] }
  | _ => none }
def FrameWindowsWrongFalsely : Prop := frameWindowsRow.holds Try.pinned (OpenSpec.ofChange frameWindowsWrong)

/-- 'castellanlaw19.FrameQueues': WHATEVER THE INPUT: true; the input reads as it did. -/
def frameQueuesSpec : ChangeSpec := { name := "frameQueues", fn := fun _ => fun
  | [d1, d2] => { results := [.lit (.bool true)], args := [d1, d2] }
  | _ => none }
def frameQueuesRow : OpenClaim := { program := "ytmmkopdijmplcaa", sum := "1f1b8dd7b09d8803064f185322eb8edcc6270416fe1f80cddc614d5180476c47", func := "castellan/castellanlaw19.FrameQueues", spec := "frameQueues", inPlace := ["internal/bytealg.MakeNoZero"], unfollowed := true, recurses := true, apart := false }
def FrameQueuesSaid : Prop := frameQueuesRow.holds Try.pinned (OpenSpec.ofChange frameQueuesSpec)

/-- ITS FALSE NEIGHBOUR: 'it returns false'. Refute it at one input. -/
def frameQueuesWrong : ChangeSpec := { name := "frameQueues", fn := fun _ => fun
  | [d1, d2] => { results := [.lit (.bool false)], args := [d1, d2] }
  | _ => none }
def FrameQueuesWrongFalsely : Prop := frameQueuesRow.holds Try.pinned (OpenSpec.ofChange frameQueuesWrong)

/- THE SECOND FORM. 'bulk': how many values and letters a reading holds, each counted each time it is reached (what is shared counts as often as it is met; a slice's spare places count too). A statement '..UptoSaid' is the law's where the arguments, and the package variables that the reading takes, are together of bulk at most 1048576: NARROWER than '..Said'. Prove '..Said' where nothing that the law and all that it calls make is longer than what came in: it says more and counts as full. Else prove '..UptoSaid'. A law counts once. -/
mutual
def uptoBulk {H : Type} : DataW H → Nat
  | .lit (.string bytes) => bytes.length + 1
  | .lit _ => 1
  | .nil => 1
  | .ptr d => uptoBulk d + 1
  | .slice elems spare => uptoBulkAll elems + uptoBulkAll spare + 1
  | .agg parts => uptoBulkAll parts + 1
  | .iface _ d => uptoBulk d + 1
  | .map entries => uptoBulkEntries entries + 1
  | .held _ => 1
def uptoBulkAll {H : Type} : List (DataW H) → Nat
  | [] => 0
  | d :: r => uptoBulk d + uptoBulkAll r
def uptoBulkEntries {H : Type} : List (Lit × DataW H) → Nat
  | [] => 0
  | x :: r => uptoBulkEntry x + uptoBulkEntries r
def uptoBulkEntry {H : Type} : Lit × DataW H → Nat
  | (.string bytes, d) => bytes.length + uptoBulk d + 1
  | (_, d) => uptoBulk d + 1
 end
def uptoSmall : (H : Type) → List (DataW H) → Bool := fun _ ds => decide (uptoBulkAll ds ≤ 1048576)
def OpenSpec.upto (s : _root_.Go.ChangeSpec) : _root_.Go.OpenSpec := { _root_.Go.OpenSpec.ofChange s with cond := some uptoSmall }

/-- 'castellantop.TopSeals', WHERE WHAT IT READS IS OF BULK AT MOST 1048576: true; the input reads as it did. -/
def topSealsUptoRow : OpenClaim := { program := "ytmmkopdijmplcaa", sum := "1f1b8dd7b09d8803064f185322eb8edcc6270416fe1f80cddc614d5180476c47", func := "castellan/castellantop.TopSeals", spec := "topSeals", inPlace := ["internal/bytealg.MakeNoZero"], unfollowed := true, recurses := true, apart := false, narrowed := true }
def TopSealsUptoSaid : Prop := topSealsUptoRow.holds Try.pinned (OpenSpec.upto topSealsSpec)

/-- 'castellantop.TopLine', WHERE WHAT IT READS IS OF BULK AT MOST 1048576: true; the input reads as it did. -/
def topLineUptoRow : OpenClaim := { program := "ytmmkopdijmplcaa", sum := "1f1b8dd7b09d8803064f185322eb8edcc6270416fe1f80cddc614d5180476c47", func := "castellan/castellantop.TopLine", spec := "topLine", inPlace := ["internal/bytealg.MakeNoZero"], unfollowed := true, recurses := true, apart := false, narrowed := true }
def TopLineUptoSaid : Prop := topLineUptoRow.holds Try.pinned (OpenSpec.upto topLineSpec)

/-- 'castellanlaw19.FrameTells', WHERE WHAT IT READS IS OF BULK AT MOST 1048576: true; the input reads as it did. -/
def frameTellsUptoRow : OpenClaim := { program := "ytmmkopdijmplcaa", sum := "1f1b8dd7b09d8803064f185322eb8edcc6270416fe1f80cddc614d5180476c47", func := "castellan/castellanlaw19.FrameTells", spec := "frameTells", inPlace := ["internal/bytealg.MakeNoZero"], unfollowed := true, recurses := true, apart := false, narrowed := true }
def FrameTellsUptoSaid : Prop := frameTellsUptoRow.holds Try.pinned (OpenSpec.upto frameTellsSpec)

/-- 'castellanlaw19.FrameBack', WHERE WHAT IT READS IS OF BULK AT MOST 1048576: true; the input reads as it did. -/
def frameBackUptoRow : OpenClaim := { program := "ytmmkopdijmplcaa", sum := "1f1b8dd7b09d8803064f185322eb8edcc6270416fe1f80cddc614d5180476c47", func := "castellan/castellanlaw19.FrameBack", spec := "frameBack", inPlace := ["internal/bytealg.MakeNoZero"], unfollowed := true, recurses := true, apart := false, narrowed := true }
def FrameBackUptoSaid : Prop := frameBackUptoRow.holds Try.pinned (OpenSpec.upto frameBackSpec)

/-- 'castellanlaw19.FrameStreams', WHERE WHAT IT READS IS OF BULK AT MOST 1048576: true; the input reads as it did. -/
def frameStreamsUptoRow : OpenClaim := { program := "ytmmkopdijmplcaa", sum := "1f1b8dd7b09d8803064f185322eb8edcc6270416fe1f80cddc614d5180476c47", func := "castellan/castellanlaw19.FrameStreams", spec := "frameStreams", inPlace := ["internal/bytealg.MakeNoZero"], unfollowed := true, recurses := true, apart := false, narrowed := true }
def FrameStreamsUptoSaid : Prop := frameStreamsUptoRow.holds Try.pinned (OpenSpec.upto frameStreamsSpec)

/-- 'castellanlaw19.FrameWindows', WHERE WHAT IT READS IS OF BULK AT MOST 1048576: true; the input reads as it did. -/
def frameWindowsUptoRow : OpenClaim := { program := "ytmmkopdijmplcaa", sum := "1f1b8dd7b09d8803064f185322eb8edcc6270416fe1f80cddc614d5180476c47", func := "castellan/castellanlaw19.FrameWindows", spec := "frameWindows", inPlace := ["internal/bytealg.MakeNoZero"], unfollowed := true, recurses := true, apart := false, narrowed := true }
def FrameWindowsUptoSaid : Prop := frameWindowsUptoRow.holds Try.pinned (OpenSpec.upto frameWindowsSpec)

/-- 'castellanlaw19.FrameQueues', WHERE WHAT IT READS IS OF BULK AT MOST 1048576: true; the input reads as it did. -/
def frameQueuesUptoRow : OpenClaim := { program := "ytmmkopdijmplcaa", sum := "1f1b8dd7b09d8803064f185322eb8edcc6270416fe1f80cddc614d5180476c47", func := "castellan/castellanlaw19.FrameQueues", spec := "frameQueues", inPlace := ["internal/bytealg.MakeNoZero"], unfollowed := true, recurses := true, apart := false, narrowed := true }
def FrameQueuesUptoSaid : Prop := frameQueuesUptoRow.holds Try.pinned (OpenSpec.upto frameQueuesSpec)

end Rows
end Go.Proofs.Ytmmkopdijmplcaa

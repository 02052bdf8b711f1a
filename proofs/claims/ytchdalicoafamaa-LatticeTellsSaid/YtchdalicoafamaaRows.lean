/-
  No cell of these rows narrows 'for every input' (looked for: loops, veiled, ifaces, maps, wideKeys, modest, calm, conditions, laid).
  DERIVED. THE GIVEN ROWS OF THIS SEAT. 7 by the template 'for every input the law returns true; each argument reads behind the call as it read before'; 0 by the template 'total and deterministic' (their statements: YtchdalicoafamaaTotals.lean).
  GIVEN WITH THE SEED: the statements are not yours to turn. If you find one false, say at which input.
  Laid BY PROGRAM, IN A SANDBOX (cutbox-rows.mjs): the forced cells as the released guide's own fill.sh prints them over the translation 14a6749ef3513af5… (all of the seat's roots in one cut). By AI agents, Wed Nov 11 2026. No macro, syntax, notation, axiom, sorry.
-/
import Derived.Test.YtchdalicoafamaaChecked
import GoSem.Claim
import GoSem.ClaimJoined
import GoSem.ClaimMapViews
import Derived.JoinedTies
import Derived.KernelRfl
namespace Go.Proofs.Ytchdalicoafamaa
/- THE CELL 'sum', in the pinned program and in every row, IS THE sha256 OF THE DUMP (.gsa) THAT YtchdalicoafamaaProg.lean LOADS. Nothing in Lean hashes anything: it is a label: what it is worth is what the hold of that sum in a sandbox is worth. -/
noncomputable def Try.pinned : Pinned := { name := "ytchdalicoafamaa", sum := "14a6749ef3513af59d218114788bf426e976ad2ae6090dfd71960bf578d167c4", checked := Try.checked }
namespace Rows
def none {H : Type} : Left H := { results := [], args := [] }

/-- 'castellanlaw04.LatticeLaws': WHATEVER THE INPUT: true; the input reads as it did. -/
def latticeLawsSpec : ChangeSpec := { name := "latticeLaws", fn := fun _ => fun
  | [d1, d2] => { results := [.lit (.bool true)], args := [d1, d2] }
  | _ => none }
def latticeLawsRow : OpenClaim := { program := "ytchdalicoafamaa", sum := "14a6749ef3513af59d218114788bf426e976ad2ae6090dfd71960bf578d167c4", func := "castellan/castellanlaw04.LatticeLaws", spec := "latticeLaws", apart := false }
def LatticeLawsSaid : Prop := latticeLawsRow.holds Try.pinned (OpenSpec.ofChange latticeLawsSpec)

/-- ITS FALSE NEIGHBOUR: 'it returns false'. Refute it at one input. -/
def latticeLawsWrong : ChangeSpec := { name := "latticeLaws", fn := fun _ => fun
  | [d1, d2] => { results := [.lit (.bool false)], args := [d1, d2] }
  | _ => none }
def LatticeLawsWrongFalsely : Prop := latticeLawsRow.holds Try.pinned (OpenSpec.ofChange latticeLawsWrong)

/-- 'castellanlaw04.LatticePairs': WHATEVER THE INPUT: true; the input reads as it did. -/
def latticePairsSpec : ChangeSpec := { name := "latticePairs", fn := fun _ => fun
  | [d1, d2] => { results := [.lit (.bool true)], args := [d1, d2] }
  | _ => none }
def latticePairsRow : OpenClaim := { program := "ytchdalicoafamaa", sum := "14a6749ef3513af59d218114788bf426e976ad2ae6090dfd71960bf578d167c4", func := "castellan/castellanlaw04.LatticePairs", spec := "latticePairs", apart := false }
def LatticePairsSaid : Prop := latticePairsRow.holds Try.pinned (OpenSpec.ofChange latticePairsSpec)

/-- ITS FALSE NEIGHBOUR: 'it returns false'. Refute it at one input. -/
def latticePairsWrong : ChangeSpec := { name := "latticePairs", fn := fun _ => fun
  | [d1, d2] => { results := [.lit (.bool false)], args := [d1, d2] }
  | _ => none }
def LatticePairsWrongFalsely : Prop := latticePairsRow.holds Try.pinned (OpenSpec.ofChange latticePairsWrong)

/-- 'castellanlaw04.LatticeMore': WHATEVER THE INPUT: true; the input reads as it did. -/
def latticeMoreSpec : ChangeSpec := { name := "latticeMore", fn := fun _ => fun
  | [d1, d2, d3] => { results := [.lit (.bool true)], args := [d1, d2, d3] }
  | _ => none }
def latticeMoreRow : OpenClaim := { program := "ytchdalicoafamaa", sum := "14a6749ef3513af59d218114788bf426e976ad2ae6090dfd71960bf578d167c4", func := "castellan/castellanlaw04.LatticeMore", spec := "latticeMore", apart := false }
def LatticeMoreSaid : Prop := latticeMoreRow.holds Try.pinned (OpenSpec.ofChange latticeMoreSpec)

/-- ITS FALSE NEIGHBOUR: 'it returns false'. Refute it at one input. -/
def latticeMoreWrong : ChangeSpec := { name := "latticeMore", fn := fun _ => fun
  | [d1, d2, d3] => { results := [.lit (.bool false)], args := [d1, d2, d3] }
  | _ => none }
def LatticeMoreWrongFalsely : Prop := latticeMoreRow.holds Try.pinned (OpenSpec.ofChange latticeMoreWrong)

/-- 'castellanlaw04.LatticeNamed': WHATEVER THE INPUT: true; the input reads as it did. -/
def latticeNamedSpec : ChangeSpec := { name := "latticeNamed", fn := fun _ => fun
  | [d1, d2] => { results := [.lit (.bool true)], args := [d1, d2] }
  | _ => none }
def latticeNamedRow : OpenClaim := { program := "ytchdalicoafamaa", sum := "14a6749ef3513af59d218114788bf426e976ad2ae6090dfd71960bf578d167c4", func := "castellan/castellanlaw04.LatticeNamed", spec := "latticeNamed", apart := false }
def LatticeNamedSaid : Prop := latticeNamedRow.holds Try.pinned (OpenSpec.ofChange latticeNamedSpec)

/-- ITS FALSE NEIGHBOUR: 'it returns false'. Refute it at one input. -/
def latticeNamedWrong : ChangeSpec := { name := "latticeNamed", fn := fun _ => fun
  | [d1, d2] => { results := [.lit (.bool false)], args := [d1, d2] }
  | _ => none }
def LatticeNamedWrongFalsely : Prop := latticeNamedRow.holds Try.pinned (OpenSpec.ofChange latticeNamedWrong)

/-- 'castellanlaw04.LatticeBounds': WHATEVER THE INPUT: true; the input reads as it did. -/
def latticeBoundsSpec : ChangeSpec := { name := "latticeBounds", fn := fun _ => fun
  | [d1, d2, d3] => { results := [.lit (.bool true)], args := [d1, d2, d3] }
  | _ => none }
def latticeBoundsRow : OpenClaim := { program := "ytchdalicoafamaa", sum := "14a6749ef3513af59d218114788bf426e976ad2ae6090dfd71960bf578d167c4", func := "castellan/castellanlaw04.LatticeBounds", spec := "latticeBounds", apart := false }
def LatticeBoundsSaid : Prop := latticeBoundsRow.holds Try.pinned (OpenSpec.ofChange latticeBoundsSpec)

/-- ITS FALSE NEIGHBOUR: 'it returns false'. Refute it at one input. -/
def latticeBoundsWrong : ChangeSpec := { name := "latticeBounds", fn := fun _ => fun
  | [d1, d2, d3] => { results := [.lit (.bool false)], args := [d1, d2, d3] }
  | _ => none }
def LatticeBoundsWrongFalsely : Prop := latticeBoundsRow.holds Try.pinned (OpenSpec.ofChange latticeBoundsWrong)

/-- 'castellanlaw04.LatticeTells': WHATEVER THE INPUT: true; the input reads as it did. -/
def latticeTellsSpec : ChangeSpec := { name := "latticeTells", fn := fun _ => fun
  | [d1, d2, d3] => { results := [.lit (.bool true)], args := [d1, d2, d3] }
  | _ => none }
def latticeTellsRow : OpenClaim := { program := "ytchdalicoafamaa", sum := "14a6749ef3513af59d218114788bf426e976ad2ae6090dfd71960bf578d167c4", func := "castellan/castellanlaw04.LatticeTells", spec := "latticeTells", apart := false }
def LatticeTellsSaid : Prop := latticeTellsRow.holds Try.pinned (OpenSpec.ofChange latticeTellsSpec)

/-- ITS FALSE NEIGHBOUR: 'it returns false'. Refute it at one input. -/
def latticeTellsWrong : ChangeSpec := { name := "latticeTells", fn := fun _ => fun
  | [d1, d2, d3] => { results := [.lit (.bool false)], args := [d1, d2, d3] }
  | _ => none }
def LatticeTellsWrongFalsely : Prop := latticeTellsRow.holds Try.pinned (OpenSpec.ofChange latticeTellsWrong)

/-- 'castellanlaw04.LatticeTurned': WHATEVER THE INPUT: true; the input reads as it did. -/
def latticeTurnedSpec : ChangeSpec := { name := "latticeTurned", fn := fun _ => fun
  | [d1, d2] => { results := [.lit (.bool true)], args := [d1, d2] }
  | _ => none }
def latticeTurnedRow : OpenClaim := { program := "ytchdalicoafamaa", sum := "14a6749ef3513af59d218114788bf426e976ad2ae6090dfd71960bf578d167c4", func := "castellan/castellanlaw04.LatticeTurned", spec := "latticeTurned", apart := false }
def LatticeTurnedSaid : Prop := latticeTurnedRow.holds Try.pinned (OpenSpec.ofChange latticeTurnedSpec)

/-- ITS FALSE NEIGHBOUR: 'it returns false'. Refute it at one input. -/
def latticeTurnedWrong : ChangeSpec := { name := "latticeTurned", fn := fun _ => fun
  | [d1, d2] => { results := [.lit (.bool false)], args := [d1, d2] }
  | _ => none }
def LatticeTurnedWrongFalsely : Prop := latticeTurnedRow.holds Try.pinned (OpenSpec.ofChange latticeTurnedWrong)

/- THE SECOND FORM. 'bulk': how many values and letters a reading holds, each counted each time it is reached (what is shared counts as often as it is met; a slice's spare places count too). A statement '..UptoSaid' is the law's where the arguments, and the package variables that the reading takes, are together of bulk at most 1048576: NARROWER than '..Said'. Prove '..Said' where nothing that the law and all that it calls make is longer than what came in: it says more and counts as full. Else prove '..UptoSaid'. A law counts once. -/
mutual
def uptoBulk {H : Type} : DataW H → Nat
  | .lit (.string bytes) => bytes.length + 1
  | .lit _ => 1
  | .nil => 1
  | .ptr d => uptoBulk d + 1
  | .slice elems spare => uptoBulkAll elems + uptoBulkAll spare + 1
  | .agg parts => uptoBulkAll parts + 1
  | .iface _ d => uptoBulk d + 1
  | .map entries => uptoBulkEntries entries + 1
  | .held _ => 1
def uptoBulkAll {H : Type} : List (DataW H) → Nat
  | [] => 0
  | d :: r => uptoBulk d + uptoBulkAll r
def uptoBulkEntries {H : Type} : List (Lit × DataW H) → Nat
  | [] => 0
  | x :: r => uptoBulkEntry x + uptoBulkEntries r
def uptoBulkEntry {H : Type} : Lit × DataW H → Nat
  | (.string bytes, d) => bytes.length + uptoBulk d + 1
  | (_, d) => uptoBulk d + 1
 end
def uptoSmall : (H : Type) → List (DataW H) → Bool := fun _ ds => decide (uptoBulkAll ds ≤ 1048576)
def OpenSpec.upto (s : _root_.Go.ChangeSpec) : _root_.Go.OpenSpec := { _root_.Go.OpenSpec.ofChange s with cond := some uptoSmall }

/-- 'castellanlaw04.LatticeLaws', WHERE WHAT IT READS IS OF BULK AT MOST 1048576: true; the input reads as it did. -/
def latticeLawsUptoRow : OpenClaim := { program := "ytchdalicoafamaa", sum := "14a6749ef3513af59d218114788bf426e976ad2ae6090dfd71960bf578d167c4", func := "castellan/castellanlaw04.LatticeLaws", spec := "latticeLaws", apart := false, narrowed := true }
def LatticeLawsUptoSaid : Prop := latticeLawsUptoRow.holds Try.pinned (OpenSpec.upto latticeLawsSpec)

/-- 'castellanlaw04.LatticePairs', WHERE WHAT IT READS IS OF BULK AT MOST 1048576: true; the input reads as it did. -/
def latticePairsUptoRow : OpenClaim := { program := "ytchdalicoafamaa", sum := "14a6749ef3513af59d218114788bf426e976ad2ae6090dfd71960bf578d167c4", func := "castellan/castellanlaw04.LatticePairs", spec := "latticePairs", apart := false, narrowed := true }
def LatticePairsUptoSaid : Prop := latticePairsUptoRow.holds Try.pinned (OpenSpec.upto latticePairsSpec)

/-- 'castellanlaw04.LatticeMore', WHERE WHAT IT READS IS OF BULK AT MOST 1048576: true; the input reads as it did. -/
def latticeMoreUptoRow : OpenClaim := { program := "ytchdalicoafamaa", sum := "14a6749ef3513af59d218114788bf426e976ad2ae6090dfd71960bf578d167c4", func := "castellan/castellanlaw04.LatticeMore", spec := "latticeMore", apart := false, narrowed := true }
def LatticeMoreUptoSaid : Prop := latticeMoreUptoRow.holds Try.pinned (OpenSpec.upto latticeMoreSpec)

/-- 'castellanlaw04.LatticeNamed', WHERE WHAT IT READS IS OF BULK AT MOST 1048576: true; the input reads as it did. -/
def latticeNamedUptoRow : OpenClaim := { program := "ytchdalicoafamaa", sum := "14a6749ef3513af59d218114788bf426e976ad2ae6090dfd71960bf578d167c4", func := "castellan/castellanlaw04.LatticeNamed", spec := "latticeNamed", apart := false, narrowed := true }
def LatticeNamedUptoSaid : Prop := latticeNamedUptoRow.holds Try.pinned (OpenSpec.upto latticeNamedSpec)

/-- 'castellanlaw04.LatticeBounds', WHERE WHAT IT READS IS OF BULK AT MOST 1048576: true; the input reads as it did. -/
def latticeBoundsUptoRow : OpenClaim := { program := "ytchdalicoafamaa", sum := "14a6749ef3513af59d218114788bf426e976ad2ae6090dfd71960bf578d167c4", func := "castellan/castellanlaw04.LatticeBounds", spec := "latticeBounds", apart := false, narrowed := true }
def LatticeBoundsUptoSaid : Prop := latticeBoundsUptoRow.holds Try.pinned (OpenSpec.upto latticeBoundsSpec)

/-- 'castellanlaw04.LatticeTells', WHERE WHAT IT READS IS OF BULK AT MOST 1048576: true; the input reads as it did. -/
def latticeTellsUptoRow : OpenClaim := { program := "ytchdalicoafamaa", sum := "14a6749ef3513af59d218114788bf426e976ad2ae6090dfd71960bf578d167c4", func := "castellan/castellanlaw04.LatticeTells", spec := "latticeTells", apart := false, narrowed := true }
def LatticeTellsUptoSaid : Prop := latticeTellsUptoRow.holds Try.pinned (OpenSpec.upto latticeTellsSpec)

/-- 'castellanlaw04.LatticeTurned', WHERE WHAT IT READS IS OF BULK AT MOST 1048576: true; the input reads as it did. -/
def latticeTurnedUptoRow : OpenClaim := { program := "ytchdalicoafamaa", sum := "14a6749ef3513af59d218114788bf426e976ad2ae6090dfd71960bf578d167c4", func := "castellan/castellanlaw04.LatticeTurned", spec := "latticeTurned", apart := false, narrowed := true }
def LatticeTurnedUptoSaid : Prop := latticeTurnedUptoRow.holds Try.pinned (OpenSpec.upto latticeTurnedSpec)

end Rows
end Go.Proofs.Ytchdalicoafamaa

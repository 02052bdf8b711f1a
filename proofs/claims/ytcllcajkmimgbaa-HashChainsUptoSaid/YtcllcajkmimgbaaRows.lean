/-
  No cell of these rows narrows 'for every input' (looked for: loops, veiled, ifaces, maps, wideKeys, modest, calm, conditions, laid).
  DERIVED. THE GIVEN ROWS OF THIS SEAT. 8 by the template 'for every input the law returns true; each argument reads behind the call as it read before'; 0 by the template 'total and deterministic' (their statements: YtcllcajkmimgbaaTotals.lean).
  GIVEN WITH THE SEED: the statements are not yours to turn. If you find one false, say at which input.
  Laid BY PROGRAM, IN A SANDBOX (cutbox-rows.mjs): the forced cells as the released guide's own fill.sh prints them over the translation 58416d341a59eca0… (all of the seat's roots in one cut). By AI agents, Wed Nov 11 2026. No macro, syntax, notation, axiom, sorry.
-/
import Derived.Test.YtcllcajkmimgbaaChecked
import GoSem.Claim
import GoSem.ClaimJoined
import GoSem.ClaimMapViews
import Derived.JoinedTies
import Derived.KernelRfl
namespace Go.Proofs.Ytcllcajkmimgbaa
/- THE CELL 'sum', in the pinned program and in every row, IS THE sha256 OF THE DUMP (.gsa) THAT YtcllcajkmimgbaaProg.lean LOADS. Nothing in Lean hashes anything: it is a label: what it is worth is what the hold of that sum in a sandbox is worth. -/
noncomputable def Try.pinned : Pinned := { name := "ytcllcajkmimgbaa", sum := "58416d341a59eca0f05083730703fa933b841b3541647643d65e6bb2ae409bce", checked := Try.checked }
namespace Rows
def none {H : Type} : Left H := { results := [], args := [] }

/-- 'castellanlaw02.HashSums': WHATEVER THE INPUT: true; the input reads as it did. -/
def hashSumsSpec : ChangeSpec := { name := "hashSums", fn := fun _ => fun
  | [d] => { results := [.lit (.bool true)], args := [d] }
  | _ => none }
def hashSumsRow : OpenClaim := { program := "ytcllcajkmimgbaa", sum := "58416d341a59eca0f05083730703fa933b841b3541647643d65e6bb2ae409bce", func := "castellan/castellanlaw02.HashSums", spec := "hashSums", inPlace := ["internal/bytealg.MakeNoZero"], unfollowed := true, recurses := true, apart := false }
def HashSumsSaid : Prop := hashSumsRow.holds Try.pinned (OpenSpec.ofChange hashSumsSpec)

/-- ITS FALSE NEIGHBOUR: 'it returns false'. Refute it at one input. -/
def hashSumsWrong : ChangeSpec := { name := "hashSums", fn := fun _ => fun
  | [d] => { results := [.lit (.bool false)], args := [d] }
  | _ => none }
def HashSumsWrongFalsely : Prop := hashSumsRow.holds Try.pinned (OpenSpec.ofChange hashSumsWrong)

/-- 'castellanlaw02.HashMacs': WHATEVER THE INPUT: true; the input reads as it did. -/
def hashMacsSpec : ChangeSpec := { name := "hashMacs", fn := fun _ => fun
  | [d1, d2] => { results := [.lit (.bool true)], args := [d1, d2] }
  | _ => none }
def hashMacsRow : OpenClaim := { program := "ytcllcajkmimgbaa", sum := "58416d341a59eca0f05083730703fa933b841b3541647643d65e6bb2ae409bce", func := "castellan/castellanlaw02.HashMacs", spec := "hashMacs", inPlace := ["internal/bytealg.MakeNoZero"], unfollowed := true, recurses := true, apart := false }
def HashMacsSaid : Prop := hashMacsRow.holds Try.pinned (OpenSpec.ofChange hashMacsSpec)

/-- ITS FALSE NEIGHBOUR: 'it returns false'. Refute it at one input. -/
def hashMacsWrong : ChangeSpec := { name := "hashMacs", fn := fun _ => fun
  | [d1, d2] => { results := [.lit (.bool false)], args := [d1, d2] }
  | _ => none }
def HashMacsWrongFalsely : Prop := hashMacsRow.holds Try.pinned (OpenSpec.ofChange hashMacsWrong)

/-- 'castellanlaw02.HashChains': WHATEVER THE INPUT: true; the input reads as it did. -/
def hashChainsSpec : ChangeSpec := { name := "hashChains", fn := fun _ => fun
  | [d1, d2] => { results := [.lit (.bool true)], args := [d1, d2] }
  | _ => none }
def hashChainsRow : OpenClaim := { program := "ytcllcajkmimgbaa", sum := "58416d341a59eca0f05083730703fa933b841b3541647643d65e6bb2ae409bce", func := "castellan/castellanlaw02.HashChains", spec := "hashChains", inPlace := ["internal/bytealg.MakeNoZero"], unfollowed := true, recurses := true, apart := false }
def HashChainsSaid : Prop := hashChainsRow.holds Try.pinned (OpenSpec.ofChange hashChainsSpec)

/-- ITS FALSE NEIGHBOUR: 'it returns false'. Refute it at one input. -/
def hashChainsWrong : ChangeSpec := { name := "hashChains", fn := fun _ => fun
  | [d1, d2] => { results := [.lit (.bool false)], args := [d1, d2] }
  | _ => none }
def HashChainsWrongFalsely : Prop := hashChainsRow.holds Try.pinned (OpenSpec.ofChange hashChainsWrong)

/-- 'castellanlaw02.HashKeys': WHATEVER THE INPUT: true; the input reads as it did. -/
def hashKeysSpec : ChangeSpec := { name := "hashKeys", fn := fun _ => fun
  | [d1, d2, d3] => { results := [.lit (.bool true)], args := [d1, d2, d3] }
  | _ => none }
def hashKeysRow : OpenClaim := { program := "ytcllcajkmimgbaa", sum := "58416d341a59eca0f05083730703fa933b841b3541647643d65e6bb2ae409bce", func := "castellan/castellanlaw02.HashKeys", spec := "hashKeys", inPlace := ["internal/bytealg.MakeNoZero"], unfollowed := true, recurses := true, apart := false }
def HashKeysSaid : Prop := hashKeysRow.holds Try.pinned (OpenSpec.ofChange hashKeysSpec)

/-- ITS FALSE NEIGHBOUR: 'it returns false'. Refute it at one input. -/
def hashKeysWrong : ChangeSpec := { name := "hashKeys", fn := fun _ => fun
  | [d1, d2, d3] => { results := [.lit (.bool false)], args := [d1, d2, d3] }
  | _ => none }
def HashKeysWrongFalsely : Prop := hashKeysRow.holds Try.pinned (OpenSpec.ofChange hashKeysWrong)

/-- 'castellanlaw02.HashJoins': WHATEVER THE INPUT: true; the input reads as it did. -/
def hashJoinsSpec : ChangeSpec := { name := "hashJoins", fn := fun _ => fun
  | [d1, d2, d3] => { results := [.lit (.bool true)], args := [d1, d2, d3] }
  | _ => none }
def hashJoinsRow : OpenClaim := { program := "ytcllcajkmimgbaa", sum := "58416d341a59eca0f05083730703fa933b841b3541647643d65e6bb2ae409bce", func := "castellan/castellanlaw02.HashJoins", spec := "hashJoins", inPlace := ["internal/bytealg.MakeNoZero"], unfollowed := true, recurses := true, apart := false }
def HashJoinsSaid : Prop := hashJoinsRow.holds Try.pinned (OpenSpec.ofChange hashJoinsSpec)

/-- ITS FALSE NEIGHBOUR: 'it returns false'. Refute it at one input. -/
def hashJoinsWrong : ChangeSpec := { name := "hashJoins", fn := fun _ => fun
  | [d1, d2, d3] => { results := [.lit (.bool false)], args := [d1, d2, d3] }
  | _ => none }
def HashJoinsWrongFalsely : Prop := hashJoinsRow.holds Try.pinned (OpenSpec.ofChange hashJoinsWrong)

/-- 'castellanlaw02.HashCuts': WHATEVER THE INPUT: true; the input reads as it did. -/
def hashCutsSpec : ChangeSpec := { name := "hashCuts", fn := fun _ => fun
  | [d1, d2, d3] => { results := [.lit (.bool true)], args := [d1, d2, d3] }
  | _ => none }
def hashCutsRow : OpenClaim := { program := "ytcllcajkmimgbaa", sum := "58416d341a59eca0f05083730703fa933b841b3541647643d65e6bb2ae409bce", func := "castellan/castellanlaw02.HashCuts", spec := "hashCuts", inPlace := ["internal/bytealg.MakeNoZero"], unfollowed := true, recurses := true, apart := false }
def HashCutsSaid : Prop := hashCutsRow.holds Try.pinned (OpenSpec.ofChange hashCutsSpec)

/-- ITS FALSE NEIGHBOUR: 'it returns false'. Refute it at one input. -/
def hashCutsWrong : ChangeSpec := { name := "hashCuts", fn := fun _ => fun
  | [d1, d2, d3] => { results := [.lit (.bool false)], args := [d1, d2, d3] }
  | _ => none }
def HashCutsWrongFalsely : Prop := hashCutsRow.holds Try.pinned (OpenSpec.ofChange hashCutsWrong)

/-- 'castellanlaw02.HashLinks': WHATEVER THE INPUT: true; the input reads as it did. -/
def hashLinksSpec : ChangeSpec := { name := "hashLinks", fn := fun _ => fun
  | [d1, d2] => { results := [.lit (.bool true)], args := [d1, d2] }
  | _ => none }
def hashLinksRow : OpenClaim := { program := "ytcllcajkmimgbaa", sum := "58416d341a59eca0f05083730703fa933b841b3541647643d65e6bb2ae409bce", func := "castellan/castellanlaw02.HashLinks", spec := "hashLinks", inPlace := ["internal/bytealg.MakeNoZero"], unfollowed := true, recurses := true, apart := false }
def HashLinksSaid : Prop := hashLinksRow.holds Try.pinned (OpenSpec.ofChange hashLinksSpec)

/-- ITS FALSE NEIGHBOUR: 'it returns false'. Refute it at one input. -/
def hashLinksWrong : ChangeSpec := { name := "hashLinks", fn := fun _ => fun
  | [d1, d2] => { results := [.lit (.bool false)], args := [d1, d2] }
  | _ => none }
def HashLinksWrongFalsely : Prop := hashLinksRow.holds Try.pinned (OpenSpec.ofChange hashLinksWrong)

/-- 'castellanlaw02.HashPieces': WHATEVER THE INPUT: true; the input reads as it did. -/
def hashPiecesSpec : ChangeSpec := { name := "hashPieces", fn := fun _ => fun
  | [d] => { results := [.lit (.bool true)], args := [d] }
  | _ => none }
def hashPiecesRow : OpenClaim := { program := "ytcllcajkmimgbaa", sum := "58416d341a59eca0f05083730703fa933b841b3541647643d65e6bb2ae409bce", func := "castellan/castellanlaw02.HashPieces", spec := "hashPieces", inPlace := ["internal/bytealg.MakeNoZero"], unfollowed := true, recurses := true, apart := false }
def HashPiecesSaid : Prop := hashPiecesRow.holds Try.pinned (OpenSpec.ofChange hashPiecesSpec)

/-- ITS FALSE NEIGHBOUR: 'it returns false'. Refute it at one input. -/
def hashPiecesWrong : ChangeSpec := { name := "hashPieces", fn := fun _ => fun
  | [d] => { results := [.lit (.bool false)], args := [d] }
  | _ => none }
def HashPiecesWrongFalsely : Prop := hashPiecesRow.holds Try.pinned (OpenSpec.ofChange hashPiecesWrong)

/- THE SECOND FORM. 'bulk': how many values and letters a reading holds, each counted each time it is reached (what is shared counts as often as it is met; a slice's spare places count too). A statement '..UptoSaid' is the law's where the arguments, and the package variables that the reading takes, are together of bulk at most 1048576: NARROWER than '..Said'. Prove '..Said' where nothing that the law and all that it calls make is longer than what came in: it says more and counts as full. Else prove '..UptoSaid'. A law counts once. -/
mutual
def uptoBulk {H : Type} : DataW H → Nat
  | .lit (.string bytes) => bytes.length + 1
  | .lit _ => 1
  | .nil => 1
  | .ptr d => uptoBulk d + 1
  | .slice elems spare => uptoBulkAll elems + uptoBulkAll spare + 1
  | .agg parts => uptoBulkAll parts + 1
  | .iface _ d => uptoBulk d + 1
  | .map entries => uptoBulkEntries entries + 1
  | .held _ => 1
def uptoBulkAll {H : Type} : List (DataW H) → Nat
  | [] => 0
  | d :: r => uptoBulk d + uptoBulkAll r
def uptoBulkEntries {H : Type} : List (Lit × DataW H) → Nat
  | [] => 0
  | x :: r => uptoBulkEntry x + uptoBulkEntries r
def uptoBulkEntry {H : Type} : Lit × DataW H → Nat
  | (.string bytes, d) => bytes.length + uptoBulk d + 1
  | (_, d) => uptoBulk d + 1
 end
def uptoSmall : (H : Type) → List (DataW H) → Bool := fun _ ds => decide (uptoBulkAll ds ≤ 1048576)
def OpenSpec.upto (s : _root_.Go.ChangeSpec) : _root_.Go.OpenSpec := { _root_.Go.OpenSpec.ofChange s with cond := some uptoSmall }

/-- 'castellanlaw02.HashSums', WHERE WHAT IT READS IS OF BULK AT MOST 1048576: true; the input reads as it did. -/
def hashSumsUptoRow : OpenClaim := { program := "ytcllcajkmimgbaa", sum := "58416d341a59eca0f05083730703fa933b841b3541647643d65e6bb2ae409bce", func := "castellan/castellanlaw02.HashSums", spec := "hashSums", inPlace := ["internal/bytealg.MakeNoZero"], unfollowed := true, recurses := true, apart := false, narrowed := true }
def HashSumsUptoSaid : Prop := hashSumsUptoRow.holds Try.pinned (OpenSpec.upto hashSumsSpec)

/-- 'castellanlaw02.HashMacs', WHERE WHAT IT READS IS OF BULK AT MOST 1048576: true; the input reads as it did. -/
def hashMacsUptoRow : OpenClaim := { program := "ytcllcajkmimgbaa", sum := "58416d341a59eca0f05083730703fa933b841b3541647643d65e6bb2ae409bce", func := "castellan/castellanlaw02.HashMacs", spec := "hashMacs", inPlace := ["internal/bytealg.MakeNoZero"], unfollowed := true, recurses := true, apart := false, narrowed := true }
def HashMacsUptoSaid : Prop := hashMacsUptoRow.holds Try.pinned (OpenSpec.upto hashMacsSpec)

/-- 'castellanlaw02.HashChains', WHERE WHAT IT READS IS OF BULK AT MOST 1048576: true; the input reads as it did. -/
def hashChainsUptoRow : OpenClaim := { program := "ytcllcajkmimgbaa", sum := "58416d341a59eca0f05083730703fa933b841b3541647643d65e6bb2ae409bce", func := "castellan/castellanlaw02.HashChains", spec := "hashChains", inPlace := ["internal/bytealg.MakeNoZero"], unfollowed := true, recurses := true, apart := false, narrowed := true }
def HashChainsUptoSaid : Prop := hashChainsUptoRow.holds Try.pinned (OpenSpec.upto hashChainsSpec)

/-- 'castellanlaw02.HashKeys', WHERE WHAT IT READS IS OF BULK AT MOST 1048576: true; the input reads as it did. -/
def hashKeysUptoRow : OpenClaim := { program := "ytcllcajkmimgbaa", sum := "58416d341a59eca0f05083730703fa933b841b3541647643d65e6bb2ae409bce", func := "castellan/castellanlaw02.HashKeys", spec := "hashKeys", inPlace := ["internal/bytealg.MakeNoZero"], unfollowed := true, recurses := true, apart := false, narrowed := true }
def HashKeysUptoSaid : Prop := hashKeysUptoRow.holds Try.pinned (OpenSpec.upto hashKeysSpec)

/-- 'castellanlaw02.HashJoins', WHERE WHAT IT READS IS OF BULK AT MOST 1048576: true; the input reads as it did. -/
def hashJoinsUptoRow : OpenClaim := { program := "ytcllcajkmimgbaa", sum := "58416d341a59eca0f05083730703fa933b841b3541647643d65e6bb2ae409bce", func := "castellan/castellanlaw02.HashJoins", spec := "hashJoins", inPlace := ["internal/bytealg.MakeNoZero"], unfollowed := true, recurses := true, apart := false, narrowed := true }
def HashJoinsUptoSaid : Prop := hashJoinsUptoRow.holds Try.pinned (OpenSpec.upto hashJoinsSpec)

/-- 'castellanlaw02.HashCuts', WHERE WHAT IT READS IS OF BULK AT MOST 1048576: true; the input reads as it did. -/
def hashCutsUptoRow : OpenClaim := { program := "ytcllcajkmimgbaa", sum := "58416d341a59eca0f05083730703fa933b841b3541647643d65e6bb2ae409bce", func := "castellan/castellanlaw02.HashCuts", spec := "hashCuts", inPlace := ["internal/bytealg.MakeNoZero"], unfollowed := true, recurses := true, apart := false, narrowed := true }
def HashCutsUptoSaid : Prop := hashCutsUptoRow.holds Try.pinned (OpenSpec.upto hashCutsSpec)

/-- 'castellanlaw02.HashLinks', WHERE WHAT IT READS IS OF BULK AT MOST 1048576: true; the input reads as it did. -/
def hashLinksUptoRow : OpenClaim := { program := "ytcllcajkmimgbaa", sum := "58416d341a59eca0f05083730703fa933b841b3541647643d65e6bb2ae409bce", func := "castellan/castellanlaw02.HashLinks", spec := "hashLinks", inPlace := ["internal/bytealg.MakeNoZero"], unfollowed := true, recurses := true, apart := false, narrowed := true }
def HashLinksUptoSaid : Prop := hashLinksUptoRow.holds Try.pinned (OpenSpec.upto hashLinksSpec)

/-- 'castellanlaw02.HashPieces', WHERE WHAT IT READS IS OF BULK AT MOST 1048576: true; the input reads as it did. -/
def hashPiecesUptoRow : OpenClaim := { program := "ytcllcajkmimgbaa", sum := "58416d341a59eca0f05083730703fa933b841b3541647643d65e6bb2ae409bce", func := "castellan/castellanlaw02.HashPieces", spec := "hashPieces", inPlace := ["internal/bytealg.MakeNoZero"], unfollowed := true, recurses := true, apart := false, narrowed := true }
def HashPiecesUptoSaid : Prop := hashPiecesUptoRow.holds Try.pinned (OpenSpec.upto hashPiecesSpec)

end Rows
end Go.Proofs.Ytcllcajkmimgbaa

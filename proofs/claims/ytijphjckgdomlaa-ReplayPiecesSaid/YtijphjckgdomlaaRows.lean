/-
  No cell of these rows narrows 'for every input' (looked for: loops, veiled, ifaces, maps, wideKeys, modest, calm, conditions, laid).
  DERIVED. THE GIVEN ROWS OF THIS SEAT. 4 by the template 'for every input the law returns true; each argument reads behind the call as it read before'; 0 by the template 'total and deterministic' (their statements: YtijphjckgdomlaaTotals.lean).
  GIVEN WITH THE SEED: the statements are not yours to turn. If you find one false, say at which input.
  Laid BY PROGRAM, IN A SANDBOX (cutbox-rows.mjs): the forced cells as the released guide's own fill.sh prints them over the translation 13748972e0bcb152… (all of the seat's roots in one cut). By AI agents, Wed Nov 11 2026. No macro, syntax, notation, axiom, sorry.
-/
import Derived.Test.YtijphjckgdomlaaChecked
import GoSem.Claim
import GoSem.ClaimJoined
import GoSem.ClaimMapViews
import Derived.JoinedTies
import Derived.KernelRfl
namespace Go.Proofs.Ytijphjckgdomlaa
/- THE CELL 'sum', in the pinned program and in every row, IS THE sha256 OF THE DUMP (.gsa) THAT YtijphjckgdomlaaProg.lean LOADS. Nothing in Lean hashes anything: it is a label: what it is worth is what the hold of that sum in a sandbox is worth. -/
noncomputable def Try.pinned : Pinned := { name := "ytijphjckgdomlaa", sum := "13748972e0bcb1524b7ec95ffc32475a11b6e9b13e1b95e961160c5ceb8b44b6", checked := Try.checked }
namespace Rows
def none {H : Type} : Left H := { results := [], args := [] }

/-- 'lineagelaw24.ReplayAll': WHATEVER THE INPUT: true; the input reads as it did. -/
def replayAllSpec : ChangeSpec := { name := "replayAll", fn := fun _ => fun
  | [d1, d2] => { results := [.lit (.bool true)], args := [d1, d2] }
  | _ => none }
def replayAllRow : OpenClaim := { program := "ytijphjckgdomlaa", sum := "13748972e0bcb1524b7ec95ffc32475a11b6e9b13e1b95e961160c5ceb8b44b6", func := "lineage/lineagelaw24.ReplayAll", spec := "replayAll", unfollowed := true, recurses := true, apart := false }
def ReplayAllSaid : Prop := replayAllRow.holds Try.pinned (OpenSpec.ofChange replayAllSpec)

/-- ITS FALSE NEIGHBOUR: 'it returns false'. Refute it at one input. -/
def replayAllWrong : ChangeSpec := { name := "replayAll", fn := fun _ => fun
  | [d1, d2] => { results := [.lit (.bool false)], args := [d1, d2] }
  | _ => none }
def ReplayAllWrongFalsely : Prop := replayAllRow.holds Try.pinned (OpenSpec.ofChange replayAllWrong)

/-- 'lineagelaw24.ReplayNarrower': WHATEVER THE INPUT: true; the input reads as it did. -/
def replayNarrowerSpec : ChangeSpec := { name := "replayNarrower", fn := fun _ => fun
  | [d] => { results := [.lit (.bool true)], args := [d] }
  | _ => none }
def replayNarrowerRow : OpenClaim := { program := "ytijphjckgdomlaa", sum := "13748972e0bcb1524b7ec95ffc32475a11b6e9b13e1b95e961160c5ceb8b44b6", func := "lineage/lineagelaw24.ReplayNarrower", spec := "replayNarrower", unfollowed := true, recurses := true, apart := false }
def ReplayNarrowerSaid : Prop := replayNarrowerRow.holds Try.pinned (OpenSpec.ofChange replayNarrowerSpec)

/-- ITS FALSE NEIGHBOUR: 'it returns false'. Refute it at one input. -/
def replayNarrowerWrong : ChangeSpec := { name := "replayNarrower", fn := fun _ => fun
  | [d] => { results := [.lit (.bool false)], args := [d] }
  | _ => none }
def ReplayNarrowerWrongFalsely : Prop := replayNarrowerRow.holds Try.pinned (OpenSpec.ofChange replayNarrowerWrong)

/-- 'lineagelaw24.ReplayEnded': WHATEVER THE INPUT: true; the input reads as it did. -/
def replayEndedSpec : ChangeSpec := { name := "replayEnded", fn := fun _ => fun
  | [d] => { results := [.lit (.bool true)], args := [d] }
  | _ => none }
def replayEndedRow : OpenClaim := { program := "ytijphjckgdomlaa", sum := "13748972e0bcb1524b7ec95ffc32475a11b6e9b13e1b95e961160c5ceb8b44b6", func := "lineage/lineagelaw24.ReplayEnded", spec := "replayEnded", unfollowed := true, recurses := true, apart := false }
def ReplayEndedSaid : Prop := replayEndedRow.holds Try.pinned (OpenSpec.ofChange replayEndedSpec)

/-- ITS FALSE NEIGHBOUR: 'it returns false'. Refute it at one input. -/
def replayEndedWrong : ChangeSpec := { name := "replayEnded", fn := fun _ => fun
  | [d] => { results := [.lit (.bool false)], args := [d] }
  | _ => none }
def ReplayEndedWrongFalsely : Prop := replayEndedRow.holds Try.pinned (OpenSpec.ofChange replayEndedWrong)

/-- 'lineagelaw24.ReplayPieces': WHATEVER THE INPUT: true; the input reads as it did. -/
def replayPiecesSpec : ChangeSpec := { name := "replayPieces", fn := fun _ => fun
  | [d1, d2, d3] => { results := [.lit (.bool true)], args := [d1, d2, d3] }
  | _ => none }
def replayPiecesRow : OpenClaim := { program := "ytijphjckgdomlaa", sum := "13748972e0bcb1524b7ec95ffc32475a11b6e9b13e1b95e961160c5ceb8b44b6", func := "lineage/lineagelaw24.ReplayPieces", spec := "replayPieces", unfollowed := true, recurses := true, apart := false }
def ReplayPiecesSaid : Prop := replayPiecesRow.holds Try.pinned (OpenSpec.ofChange replayPiecesSpec)

/-- ITS FALSE NEIGHBOUR: 'it returns false'. Refute it at one input. -/
def replayPiecesWrong : ChangeSpec := { name := "replayPieces", fn := fun _ => fun
  | [d1, d2, d3] => { results := [.lit (.bool false)], args := [d1, d2, d3] }
  | _ => none }
def ReplayPiecesWrongFalsely : Prop := replayPiecesRow.holds Try.pinned (OpenSpec.ofChange replayPiecesWrong)

/- THE SECOND FORM. 'bulk': how many values and letters a reading holds, each counted each time it is reached (what is shared counts as often as it is met; a slice's spare places count too). A statement '..UptoSaid' is the law's where the arguments, and the package variables that the reading takes, are together of bulk at most 1048576: NARROWER than '..Said'. Prove '..Said' where nothing that the law and all that it calls make is longer than what came in: it says more and counts as full. Else prove '..UptoSaid'. A law counts once. -/
mutual
def uptoBulk {H : Type} : DataW H → Nat
  | .lit (.string bytes) => bytes.length + 1
  | .lit _ => 1
  | .nil => 1
  | .ptr d => uptoBulk d + 1
  | .slice elems spare => uptoBulkAll elems + uptoBulkAll spare + 1
  | .agg parts => uptoBulkAll parts + 1
  | .iface _ d => uptoBulk d + 1
  | .map entries => uptoBulkEntries entries + 1
  | .held _ => 1
def uptoBulkAll {H : Type} : List (DataW H) → Nat
  | [] => 0
  | d :: r => uptoBulk d + uptoBulkAll r
def uptoBulkEntries {H : Type} : List (Lit × DataW H) → Nat
  | [] => 0
  | x :: r => uptoBulkEntry x + uptoBulkEntries r
def uptoBulkEntry {H : Type} : Lit × DataW H → Nat
  | (.string bytes, d) => bytes.length + uptoBulk d + 1
  | (_, d) => uptoBulk d + 1
 end
def uptoSmall : (H : Type) → List (DataW H) → Bool := fun _ ds => decide (uptoBulkAll ds ≤ 1048576)
def OpenSpec.upto (s : _root_.Go.ChangeSpec) : _root_.Go.OpenSpec := { _root_.Go.OpenSpec.ofChange s with cond := some uptoSmall }

/-- 'lineagelaw24.ReplayAll', WHERE WHAT IT READS IS OF BULK AT MOST 1048576: true; the input reads as it did. -/
def replayAllUptoRow : OpenClaim := { program := "ytijphjckgdomlaa", sum := "13748972e0bcb1524b7ec95ffc32475a11b6e9b13e1b95e961160c5ceb8b44b6", func := "lineage/lineagelaw24.ReplayAll", spec := "replayAll", unfollowed := true, recurses := true, apart := false, narrowed := true }
def ReplayAllUptoSaid : Prop := replayAllUptoRow.holds Try.pinned (OpenSpec.upto replayAllSpec)

/-- 'lineagelaw24.ReplayNarrower', WHERE WHAT IT READS IS OF BULK AT MOST 1048576: true; the input reads as it did. -/
def replayNarrowerUptoRow : OpenClaim := { program := "ytijphjckgdomlaa", sum := "13748972e0bcb1524b7ec95ffc32475a11b6e9b13e1b95e961160c5ceb8b44b6", func := "lineage/lineagelaw24.ReplayNarrower", spec := "replayNarrower", unfollowed := true, recurses := true, apart := false, narrowed := true }
def ReplayNarrowerUptoSaid : Prop := replayNarrowerUptoRow.holds Try.pinned (OpenSpec.upto replayNarrowerSpec)

/-- 'lineagelaw24.ReplayEnded', WHERE WHAT IT READS IS OF BULK AT MOST 1048576: true; the input reads as it did. -/
def replayEndedUptoRow : OpenClaim := { program := "ytijphjckgdomlaa", sum := "13748972e0bcb1524b7ec95ffc32475a11b6e9b13e1b95e961160c5ceb8b44b6", func := "lineage/lineagelaw24.ReplayEnded", spec := "replayEnded", unfollowed := true, recurses := true, apart := false, narrowed := true }
def ReplayEndedUptoSaid : Prop := replayEndedUptoRow.holds Try.pinned (OpenSpec.upto replayEndedSpec)

/-- 'lineagelaw24.ReplayPieces', WHERE WHAT IT READS IS OF BULK AT MOST 1048576: true; the input reads as it did. -/
def replayPiecesUptoRow : OpenClaim := { program := "ytijphjckgdomlaa", sum := "13748972e0bcb1524b7ec95ffc32475a11b6e9b13e1b95e961160c5ceb8b44b6", func := "lineage/lineagelaw24.ReplayPieces", spec := "replayPieces", unfollowed := true, recurses := true, apart := false, narrowed := true }
def ReplayPiecesUptoSaid : Prop := replayPiecesUptoRow.holds Try.pinned (OpenSpec.upto replayPiecesSpec)

end Rows
end Go.Proofs.Ytijphjckgdomlaa

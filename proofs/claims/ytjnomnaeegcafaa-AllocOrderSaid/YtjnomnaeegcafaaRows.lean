/-
  No cell of these rows narrows 'for every input' (looked for: loops, veiled, ifaces, maps, wideKeys, modest, calm, conditions, laid).
  DERIVED. THE GIVEN ROWS OF THIS SEAT. 4 by the template 'for every input the law returns true; each argument reads behind the call as it read before'; 0 by the template 'total and deterministic' (their statements: YtjnomnaeegcafaaTotals.lean).
  GIVEN WITH THE SEED: the statements are not yours to turn. If you find one false, say at which input.
  Laid BY PROGRAM, IN A SANDBOX (cutbox-rows.mjs): the forced cells as the released guide's own fill.sh prints them over the translation 35bef5da2ee35de2… (all of the seat's roots in one cut). By AI agents, Wed Nov 11 2026. No macro, syntax, notation, axiom, sorry.
-/
import Derived.Test.YtjnomnaeegcafaaChecked
import GoSem.Claim
import GoSem.ClaimJoined
import GoSem.ClaimMapViews
import Derived.JoinedTies
import Derived.KernelRfl
namespace Go.Proofs.Ytjnomnaeegcafaa
/- THE CELL 'sum', in the pinned program and in every row, IS THE sha256 OF THE DUMP (.gsa) THAT YtjnomnaeegcafaaProg.lean LOADS. Nothing in Lean hashes anything: it is a label: what it is worth is what the hold of that sum in a sandbox is worth. -/
noncomputable def Try.pinned : Pinned := { name := "ytjnomnaeegcafaa", sum := "35bef5da2ee35de259afff7d513aa168e6e93d3373726d20fbd123e6af8559ed", checked := Try.checked }
namespace Rows
def none {H : Type} : Left H := { results := [], args := [] }

/-- 'pianolalaw15.AllocOrder': WHATEVER THE INPUT: true; the input reads as it did. -/
def allocOrderSpec : ChangeSpec := { name := "allocOrder", fn := fun _ => fun
  | [d1, d2] => { results := [.lit (.bool true)], args := [d1, d2] }
  | _ => none }
def allocOrderRow : OpenClaim := { program := "ytjnomnaeegcafaa", sum := "35bef5da2ee35de259afff7d513aa168e6e93d3373726d20fbd123e6af8559ed", func := "pianola/pianolalaw15.AllocOrder", spec := "allocOrder", unfollowed := true, recurses := true, apart := false }
def AllocOrderSaid : Prop := allocOrderRow.holds Try.pinned (OpenSpec.ofChange allocOrderSpec)

/-- ITS FALSE NEIGHBOUR: 'it returns false'. Refute it at one input. -/
def allocOrderWrong : ChangeSpec := { name := "allocOrder", fn := fun _ => fun
  | [d1, d2] => { results := [.lit (.bool false)], args := [d1, d2] }
  | _ => none }
def AllocOrderWrongFalsely : Prop := allocOrderRow.holds Try.pinned (OpenSpec.ofChange allocOrderWrong)

/-- 'pianolalaw15.AllocMoves': WHATEVER THE INPUT: true; the input reads as it did. -/
def allocMovesSpec : ChangeSpec := { name := "allocMoves", fn := fun _ => fun
  | [d1, d2] => { results := [.lit (.bool true)], args := [d1, d2] }
  | _ => none }
def allocMovesRow : OpenClaim := { program := "ytjnomnaeegcafaa", sum := "35bef5da2ee35de259afff7d513aa168e6e93d3373726d20fbd123e6af8559ed", func := "pianola/pianolalaw15.AllocMoves", spec := "allocMoves", unfollowed := true, recurses := true, apart := false }
def AllocMovesSaid : Prop := allocMovesRow.holds Try.pinned (OpenSpec.ofChange allocMovesSpec)

/-- ITS FALSE NEIGHBOUR: 'it returns false'. Refute it at one input. -/
def allocMovesWrong : ChangeSpec := { name := "allocMoves", fn := fun _ => fun
  | [d1, d2] => { results := [.lit (.bool false)], args := [d1, d2] }
  | _ => none }
def AllocMovesWrongFalsely : Prop := allocMovesRow.holds Try.pinned (OpenSpec.ofChange allocMovesWrong)

/-- 'pianolalaw15.AllocPlaces': WHATEVER THE INPUT: true; the input reads as it did. -/
def allocPlacesSpec : ChangeSpec := { name := "allocPlaces", fn := fun _ => fun
  | [d1, d2, d3] => { results := [.lit (.bool true)], args := [d1, d2, d3] }
  | _ => none }
def allocPlacesRow : OpenClaim := { program := "ytjnomnaeegcafaa", sum := "35bef5da2ee35de259afff7d513aa168e6e93d3373726d20fbd123e6af8559ed", func := "pianola/pianolalaw15.AllocPlaces", spec := "allocPlaces", unfollowed := true, recurses := true, apart := false }
def AllocPlacesSaid : Prop := allocPlacesRow.holds Try.pinned (OpenSpec.ofChange allocPlacesSpec)

/-- ITS FALSE NEIGHBOUR: 'it returns false'. Refute it at one input. -/
def allocPlacesWrong : ChangeSpec := { name := "allocPlaces", fn := fun _ => fun
  | [d1, d2, d3] => { results := [.lit (.bool false)], args := [d1, d2, d3] }
  | _ => none }
def AllocPlacesWrongFalsely : Prop := allocPlacesRow.holds Try.pinned (OpenSpec.ofChange allocPlacesWrong)

/-- 'pianolalaw15.AllocApart': WHATEVER THE INPUT: true; the input reads as it did. -/
def allocApartSpec : ChangeSpec := { name := "allocApart", fn := fun _ => fun
  | [d1, d2, d3] => { results := [.lit (.bool true)], args := [d1, d2, d3] }
  | _ => none }
def allocApartRow : OpenClaim := { program := "ytjnomnaeegcafaa", sum := "35bef5da2ee35de259afff7d513aa168e6e93d3373726d20fbd123e6af8559ed", func := "pianola/pianolalaw15.AllocApart", spec := "allocApart", unfollowed := true, recurses := true, apart := false }
def AllocApartSaid : Prop := allocApartRow.holds Try.pinned (OpenSpec.ofChange allocApartSpec)

/-- ITS FALSE NEIGHBOUR: 'it returns false'. Refute it at one input. -/
def allocApartWrong : ChangeSpec := { name := "allocApart", fn := fun _ => fun
  | [d1, d2, d3] => { results := [.lit (.bool false)], args := [d1, d2, d3] }
  | _ => none }
def AllocApartWrongFalsely : Prop := allocApartRow.holds Try.pinned (OpenSpec.ofChange allocApartWrong)

/- THE SECOND FORM. 'bulk': how many values and letters a reading holds, each counted each time it is reached (what is shared counts as often as it is met; a slice's spare places count too). A statement '..UptoSaid' is the law's where the arguments, and the package variables that the reading takes, are together of bulk at most 1048576: NARROWER than '..Said'. Prove '..Said' where nothing that the law and all that it calls make is longer than what came in: it says more and counts as full. Else prove '..UptoSaid'. A law counts once. -/
mutual
def uptoBulk {H : Type} : DataW H → Nat
  | .lit (.string bytes) => bytes.length + 1
  | .lit _ => 1
  | .nil => 1
  | .ptr d => uptoBulk d + 1
  | .slice elems spare => uptoBulkAll elems + uptoBulkAll spare + 1
  | .agg parts => uptoBulkAll parts + 1
  | .iface _ d => uptoBulk d + 1
  | .map entries => uptoBulkEntries entries + 1
  | .held _ => 1
def uptoBulkAll {H : Type} : List (DataW H) → Nat
  | [] => 0
  | d :: r => uptoBulk d + uptoBulkAll r
def uptoBulkEntries {H : Type} : List (Lit × DataW H) → Nat
  | [] => 0
  | x :: r => uptoBulkEntry x + uptoBulkEntries r
def uptoBulkEntry {H : Type} : Lit × DataW H → Nat
  | (.string bytes, d) => bytes.length + uptoBulk d + 1
  | (_, d) => uptoBulk d + 1
 end
def uptoSmall : (H : Type) → List (DataW H) → Bool := fun _ ds => decide (uptoBulkAll ds ≤ 1048576)
def OpenSpec.upto (s : _root_.Go.ChangeSpec) : _root_.Go.OpenSpec := { _root_.Go.OpenSpec.ofChange s with cond := some uptoSmall }

/-- 'pianolalaw15.AllocOrder', WHERE WHAT IT READS IS OF BULK AT MOST 1048576: true; the input reads as it did. -/
def allocOrderUptoRow : OpenClaim := { program := "ytjnomnaeegcafaa", sum := "35bef5da2ee35de259afff7d513aa168e6e93d3373726d20fbd123e6af8559ed", func := "pianola/pianolalaw15.AllocOrder", spec := "allocOrder", unfollowed := true, recurses := true, apart := false, narrowed := true }
def AllocOrderUptoSaid : Prop := allocOrderUptoRow.holds Try.pinned (OpenSpec.upto allocOrderSpec)

/-- 'pianolalaw15.AllocMoves', WHERE WHAT IT READS IS OF BULK AT MOST 1048576: true; the input reads as it did. -/
def allocMovesUptoRow : OpenClaim := { program := "ytjnomnaeegcafaa", sum := "35bef5da2ee35de259afff7d513aa168e6e93d3373726d20fbd123e6af8559ed", func := "pianola/pianolalaw15.AllocMoves", spec := "allocMoves", unfollowed := true, recurses := true, apart := false, narrowed := true }
def AllocMovesUptoSaid : Prop := allocMovesUptoRow.holds Try.pinned (OpenSpec.upto allocMovesSpec)

/-- 'pianolalaw15.AllocPlaces', WHERE WHAT IT READS IS OF BULK AT MOST 1048576: true; the input reads as it did. -/
def allocPlacesUptoRow : OpenClaim := { program := "ytjnomnaeegcafaa", sum := "35bef5da2ee35de259afff7d513aa168e6e93d3373726d20fbd123e6af8559ed", func := "pianola/pianolalaw15.AllocPlaces", spec := "allocPlaces", unfollowed := true, recurses := true, apart := false, narrowed := true }
def AllocPlacesUptoSaid : Prop := allocPlacesUptoRow.holds Try.pinned (OpenSpec.upto allocPlacesSpec)

/-- 'pianolalaw15.AllocApart', WHERE WHAT IT READS IS OF BULK AT MOST 1048576: true; the input reads as it did. -/
def allocApartUptoRow : OpenClaim := { program := "ytjnomnaeegcafaa", sum := "35bef5da2ee35de259afff7d513aa168e6e93d3373726d20fbd123e6af8559ed", func := "pianola/pianolalaw15.AllocApart", spec := "allocApart", unfollowed := true, recurses := true, apart := false, narrowed := true }
def AllocApartUptoSaid : Prop := allocApartUptoRow.holds Try.pinned (OpenSpec.upto allocApartSpec)

end Rows
end Go.Proofs.Ytjnomnaeegcafaa

/-
  No cell of these rows narrows 'for every input' (looked for: loops, veiled, ifaces, maps, wideKeys, modest, calm, conditions, laid).
  DERIVED. THE GIVEN ROWS OF THIS SEAT. 3 by the template 'for every input the law returns true; each argument reads behind the call as it read before'; 0 by the template 'total and deterministic' (their statements: YtmlffomdlcfcbaaTotals.lean).
  GIVEN WITH THE SEED: the statements are not yours to turn. If you find one false, say at which input.
  Laid BY PROGRAM, IN A SANDBOX (cutbox-rows.mjs): the forced cells as the released guide's own fill.sh prints them over the translation 7be40fbc352fa578… (all of the seat's roots in one cut). By AI agents, Wed Nov 11 2026. No macro, syntax, notation, axiom, sorry.
-/
import Derived.Test.YtmlffomdlcfcbaaChecked
import GoSem.Claim
import GoSem.ClaimJoined
import GoSem.ClaimMapViews
import Derived.JoinedTies
import Derived.KernelRfl
namespace Go.Proofs.Ytmlffomdlcfcbaa
/- THE CELL 'sum', in the pinned program and in every row, IS THE sha256 OF THE DUMP (.gsa) THAT YtmlffomdlcfcbaaProg.lean LOADS. Nothing in Lean hashes anything: it is a label: what it is worth is what the hold of that sum in a sandbox is worth. -/
noncomputable def Try.pinned : Pinned := { name := "ytmlffomdlcfcbaa", sum := "7be40fbc352fa5786465b57d8b749d1081d4773c9f4e55aa6a3ba2710f5e70dc", checked := Try.checked }
namespace Rows
def none {H : Type} : Left H := { results := [], args := [] }

/-- 'pianolalaw20.OplogDoes': WHATEVER THE INPUT: true; the input reads as it did. -/
def oplogDoesSpec : ChangeSpec := { name := "oplogDoes", fn := fun _ => fun
  | [d1, d2, d3] => { results := [.lit (.bool true)], args := [d1, d2, d3] }
  | _ => none }
def oplogDoesRow : OpenClaim := { program := "ytmlffomdlcfcbaa", sum := "7be40fbc352fa5786465b57d8b749d1081d4773c9f4e55aa6a3ba2710f5e70dc", func := "pianola/pianolalaw20.OplogDoes", spec := "oplogDoes", unfollowed := true, recurses := true, apart := false }
def OplogDoesSaid : Prop := oplogDoesRow.holds Try.pinned (OpenSpec.ofChange oplogDoesSpec)

/-- ITS FALSE NEIGHBOUR: 'it returns false'. Refute it at one input. -/
def oplogDoesWrong : ChangeSpec := { name := "oplogDoes", fn := fun _ => fun
  | [d1, d2, d3] => { results := [.lit (.bool false)], args := [d1, d2, d3] }
  | _ => none }
def OplogDoesWrongFalsely : Prop := oplogDoesRow.holds Try.pinned (OpenSpec.ofChange oplogDoesWrong)

/-- 'pianolalaw20.OplogNobody': WHATEVER THE INPUT: true; the input reads as it did. -/
def oplogNobodySpec : ChangeSpec := { name := "oplogNobody", fn := fun _ => fun
  | [d] => { results := [.lit (.bool true)], args := [d] }
  | _ => none }
def oplogNobodyRow : OpenClaim := { program := "ytmlffomdlcfcbaa", sum := "7be40fbc352fa5786465b57d8b749d1081d4773c9f4e55aa6a3ba2710f5e70dc", func := "pianola/pianolalaw20.OplogNobody", spec := "oplogNobody", unfollowed := true, recurses := true, apart := false }
def OplogNobodySaid : Prop := oplogNobodyRow.holds Try.pinned (OpenSpec.ofChange oplogNobodySpec)

/-- ITS FALSE NEIGHBOUR: 'it returns false'. Refute it at one input. -/
def oplogNobodyWrong : ChangeSpec := { name := "oplogNobody", fn := fun _ => fun
  | [d] => { results := [.lit (.bool false)], args := [d] }
  | _ => none }
def OplogNobodyWrongFalsely : Prop := oplogNobodyRow.holds Try.pinned (OpenSpec.ofChange oplogNobodyWrong)

/-- 'pianolalaw20.OplogKeeps': WHATEVER THE INPUT: true; the input reads as it did. -/
def oplogKeepsSpec : ChangeSpec := { name := "oplogKeeps", fn := fun _ => fun
  | [d1, d2] => { results := [.lit (.bool true)], args := [d1, d2] }
  | _ => none }
def oplogKeepsRow : OpenClaim := { program := "ytmlffomdlcfcbaa", sum := "7be40fbc352fa5786465b57d8b749d1081d4773c9f4e55aa6a3ba2710f5e70dc", func := "pianola/pianolalaw20.OplogKeeps", spec := "oplogKeeps", unfollowed := true, recurses := true, apart := false }
def OplogKeepsSaid : Prop := oplogKeepsRow.holds Try.pinned (OpenSpec.ofChange oplogKeepsSpec)

/-- ITS FALSE NEIGHBOUR: 'it returns false'. Refute it at one input. -/
def oplogKeepsWrong : ChangeSpec := { name := "oplogKeeps", fn := fun _ => fun
  | [d1, d2] => { results := [.lit (.bool false)], args := [d1, d2] }
  | _ => none }
def OplogKeepsWrongFalsely : Prop := oplogKeepsRow.holds Try.pinned (OpenSpec.ofChange oplogKeepsWrong)

/- THE SECOND FORM. 'bulk': how many values and letters a reading holds, each counted each time it is reached (what is shared counts as often as it is met; a slice's spare places count too). A statement '..UptoSaid' is the law's where the arguments, and the package variables that the reading takes, are together of bulk at most 1048576: NARROWER than '..Said'. Prove '..Said' where nothing that the law and all that it calls make is longer than what came in: it says more and counts as full. Else prove '..UptoSaid'. A law counts once. -/
mutual
def uptoBulk {H : Type} : DataW H → Nat
  | .lit (.string bytes) => bytes.length + 1
  | .lit _ => 1
  | .nil => 1
  | .ptr d => uptoBulk d + 1
  | .slice elems spare => uptoBulkAll elems + uptoBulkAll spare + 1
  | .agg parts => uptoBulkAll parts + 1
  | .iface _ d => uptoBulk d + 1
  | .map entries => uptoBulkEntries entries + 1
  | .held _ => 1
def uptoBulkAll {H : Type} : List (DataW H) → Nat
  | [] => 0
  | d :: r => uptoBulk d + uptoBulkAll r
def uptoBulkEntries {H : Type} : List (Lit × DataW H) → Nat
  | [] => 0
  | x :: r => uptoBulkEntry x + uptoBulkEntries r
def uptoBulkEntry {H : Type} : Lit × DataW H → Nat
  | (.string bytes, d) => bytes.length + uptoBulk d + 1
  | (_, d) => uptoBulk d + 1
 end
def uptoSmall : (H : Type) → List (DataW H) → Bool := fun _ ds => decide (uptoBulkAll ds ≤ 1048576)
def OpenSpec.upto (s : _root_.Go.ChangeSpec) : _root_.Go.OpenSpec := { _root_.Go.OpenSpec.ofChange s with cond := some uptoSmall }

/-- 'pianolalaw20.OplogDoes', WHERE WHAT IT READS IS OF BULK AT MOST 1048576: true; the input reads as it did. -/
def oplogDoesUptoRow : OpenClaim := { program := "ytmlffomdlcfcbaa", sum := "7be40fbc352fa5786465b57d8b749d1081d4773c9f4e55aa6a3ba2710f5e70dc", func := "pianola/pianolalaw20.OplogDoes", spec := "oplogDoes", unfollowed := true, recurses := true, apart := false, narrowed := true }
def OplogDoesUptoSaid : Prop := oplogDoesUptoRow.holds Try.pinned (OpenSpec.upto oplogDoesSpec)

/-- 'pianolalaw20.OplogNobody', WHERE WHAT IT READS IS OF BULK AT MOST 1048576: true; the input reads as it did. -/
def oplogNobodyUptoRow : OpenClaim := { program := "ytmlffomdlcfcbaa", sum := "7be40fbc352fa5786465b57d8b749d1081d4773c9f4e55aa6a3ba2710f5e70dc", func := "pianola/pianolalaw20.OplogNobody", spec := "oplogNobody", unfollowed := true, recurses := true, apart := false, narrowed := true }
def OplogNobodyUptoSaid : Prop := oplogNobodyUptoRow.holds Try.pinned (OpenSpec.upto oplogNobodySpec)

/-- 'pianolalaw20.OplogKeeps', WHERE WHAT IT READS IS OF BULK AT MOST 1048576: true; the input reads as it did. -/
def oplogKeepsUptoRow : OpenClaim := { program := "ytmlffomdlcfcbaa", sum := "7be40fbc352fa5786465b57d8b749d1081d4773c9f4e55aa6a3ba2710f5e70dc", func := "pianola/pianolalaw20.OplogKeeps", spec := "oplogKeeps", unfollowed := true, recurses := true, apart := false, narrowed := true }
def OplogKeepsUptoSaid : Prop := oplogKeepsUptoRow.holds Try.pinned (OpenSpec.upto oplogKeepsSpec)

end Rows
end Go.Proofs.Ytmlffomdlcfcbaa

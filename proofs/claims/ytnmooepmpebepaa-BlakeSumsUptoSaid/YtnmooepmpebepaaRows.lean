/-
  No cell of these rows narrows 'for every input' (looked for: loops, veiled, ifaces, maps, wideKeys, modest, calm, conditions, laid).
  DERIVED. THE GIVEN ROWS OF THIS SEAT. 7 by the template 'for every input the law returns true; each argument reads behind the call as it read before'; 0 by the template 'total and deterministic' (their statements: YtnmooepmpebepaaTotals.lean).
  GIVEN WITH THE SEED: the statements are not yours to turn. If you find one false, say at which input.
  Laid BY PROGRAM, IN A SANDBOX (cutbox-rows.mjs): the forced cells as the released guide's own fill.sh prints them over the translation dfbcc11945a31ee1… (all of the seat's roots in one cut). By AI agents, Wed Nov 11 2026. No macro, syntax, notation, axiom, sorry.
-/
import Derived.Test.YtnmooepmpebepaaChecked
import GoSem.Claim
import GoSem.ClaimJoined
import GoSem.ClaimMapViews
import Derived.JoinedTies
import Derived.KernelRfl
namespace Go.Proofs.Ytnmooepmpebepaa
/- THE CELL 'sum', in the pinned program and in every row, IS THE sha256 OF THE DUMP (.gsa) THAT YtnmooepmpebepaaProg.lean LOADS. Nothing in Lean hashes anything: it is a label: what it is worth is what the hold of that sum in a sandbox is worth. -/
noncomputable def Try.pinned : Pinned := { name := "ytnmooepmpebepaa", sum := "dfbcc11945a31ee1c5750dfe95e89635170f840e06fdc5d532026b8cc3fda2c8", checked := Try.checked }
namespace Rows
def none {H : Type} : Left H := { results := [], args := [] }

/-- 'pianolalaw02.BlakeGoes': WHATEVER THE INPUT: true; the input reads as it did. -/
def blakeGoesSpec : ChangeSpec := { name := "blakeGoes", fn := fun _ => fun
  | [d] => { results := [.lit (.bool true)], args := [d] }
  | _ => none }
def blakeGoesRow : OpenClaim := { program := "ytnmooepmpebepaa", sum := "dfbcc11945a31ee1c5750dfe95e89635170f840e06fdc5d532026b8cc3fda2c8", func := "pianola/pianolalaw02.BlakeGoes", spec := "blakeGoes", recurses := true, apart := false }
def BlakeGoesSaid : Prop := blakeGoesRow.holds Try.pinned (OpenSpec.ofChange blakeGoesSpec)

/-- ITS FALSE NEIGHBOUR: 'it returns false'. Refute it at one input. -/
def blakeGoesWrong : ChangeSpec := { name := "blakeGoes", fn := fun _ => fun
  | [d] => { results := [.lit (.bool false)], args := [d] }
  | _ => none }
def BlakeGoesWrongFalsely : Prop := blakeGoesRow.holds Try.pinned (OpenSpec.ofChange blakeGoesWrong)

/-- 'pianolalaw02.BlakeTexts': WHATEVER THE INPUT: true; the input reads as it did. -/
def blakeTextsSpec : ChangeSpec := { name := "blakeTexts", fn := fun _ => fun
  | [d] => { results := [.lit (.bool true)], args := [d] }
  | _ => none }
def blakeTextsRow : OpenClaim := { program := "ytnmooepmpebepaa", sum := "dfbcc11945a31ee1c5750dfe95e89635170f840e06fdc5d532026b8cc3fda2c8", func := "pianola/pianolalaw02.BlakeTexts", spec := "blakeTexts", recurses := true, apart := false }
def BlakeTextsSaid : Prop := blakeTextsRow.holds Try.pinned (OpenSpec.ofChange blakeTextsSpec)

/-- ITS FALSE NEIGHBOUR: 'it returns false'. Refute it at one input. -/
def blakeTextsWrong : ChangeSpec := { name := "blakeTexts", fn := fun _ => fun
  | [d] => { results := [.lit (.bool false)], args := [d] }
  | _ => none }
def BlakeTextsWrongFalsely : Prop := blakeTextsRow.holds Try.pinned (OpenSpec.ofChange blakeTextsWrong)

/-- 'pianolalaw02.BlakeBlocks': WHATEVER THE INPUT: true; the input reads as it did. -/
def blakeBlocksSpec : ChangeSpec := { name := "blakeBlocks", fn := fun _ => fun
  | [d] => { results := [.lit (.bool true)], args := [d] }
  | _ => none }
def blakeBlocksRow : OpenClaim := { program := "ytnmooepmpebepaa", sum := "dfbcc11945a31ee1c5750dfe95e89635170f840e06fdc5d532026b8cc3fda2c8", func := "pianola/pianolalaw02.BlakeBlocks", spec := "blakeBlocks", recurses := true, apart := false }
def BlakeBlocksSaid : Prop := blakeBlocksRow.holds Try.pinned (OpenSpec.ofChange blakeBlocksSpec)

/-- ITS FALSE NEIGHBOUR: 'it returns false'. Refute it at one input. -/
def blakeBlocksWrong : ChangeSpec := { name := "blakeBlocks", fn := fun _ => fun
  | [d] => { results := [.lit (.bool false)], args := [d] }
  | _ => none }
def BlakeBlocksWrongFalsely : Prop := blakeBlocksRow.holds Try.pinned (OpenSpec.ofChange blakeBlocksWrong)

/-- 'pianolalaw02.BlakeBack': WHATEVER THE INPUT: true; the input reads as it did. -/
def blakeBackSpec : ChangeSpec := { name := "blakeBack", fn := fun _ => fun
  | [d1, d2, d3] => { results := [.lit (.bool true)], args := [d1, d2, d3] }
  | _ => none }
def blakeBackRow : OpenClaim := { program := "ytnmooepmpebepaa", sum := "dfbcc11945a31ee1c5750dfe95e89635170f840e06fdc5d532026b8cc3fda2c8", func := "pianola/pianolalaw02.BlakeBack", spec := "blakeBack", recurses := true, apart := false }
def BlakeBackSaid : Prop := blakeBackRow.holds Try.pinned (OpenSpec.ofChange blakeBackSpec)

/-- ITS FALSE NEIGHBOUR: 'it returns false'. Refute it at one input. -/
def blakeBackWrong : ChangeSpec := { name := "blakeBack", fn := fun _ => fun
  | [d1, d2, d3] => { results := [.lit (.bool false)], args := [d1, d2, d3] }
  | _ => none }
def BlakeBackWrongFalsely : Prop := blakeBackRow.holds Try.pinned (OpenSpec.ofChange blakeBackWrong)

/-- 'pianolalaw02.BlakeSums': WHATEVER THE INPUT: true; the input reads as it did. -/
def blakeSumsSpec : ChangeSpec := { name := "blakeSums", fn := fun _ => fun
  | [d1, d2] => { results := [.lit (.bool true)], args := [d1, d2] }
  | _ => none }
def blakeSumsRow : OpenClaim := { program := "ytnmooepmpebepaa", sum := "dfbcc11945a31ee1c5750dfe95e89635170f840e06fdc5d532026b8cc3fda2c8", func := "pianola/pianolalaw02.BlakeSums", spec := "blakeSums", recurses := true, apart := false }
def BlakeSumsSaid : Prop := blakeSumsRow.holds Try.pinned (OpenSpec.ofChange blakeSumsSpec)

/-- ITS FALSE NEIGHBOUR: 'it returns false'. Refute it at one input. -/
def blakeSumsWrong : ChangeSpec := { name := "blakeSums", fn := fun _ => fun
  | [d1, d2] => { results := [.lit (.bool false)], args := [d1, d2] }
  | _ => none }
def BlakeSumsWrongFalsely : Prop := blakeSumsRow.holds Try.pinned (OpenSpec.ofChange blakeSumsWrong)

/-- 'pianolalaw02.BlakeWorks': WHATEVER THE INPUT: true; the input reads as it did. -/
def blakeWorksSpec : ChangeSpec := { name := "blakeWorks", fn := fun _ => fun
  | [d1, d2, d3, d4] => { results := [.lit (.bool true)], args := [d1, d2, d3, d4] }
  | _ => none }
def blakeWorksRow : OpenClaim := { program := "ytnmooepmpebepaa", sum := "dfbcc11945a31ee1c5750dfe95e89635170f840e06fdc5d532026b8cc3fda2c8", func := "pianola/pianolalaw02.BlakeWorks", spec := "blakeWorks", recurses := true, apart := false }
def BlakeWorksSaid : Prop := blakeWorksRow.holds Try.pinned (OpenSpec.ofChange blakeWorksSpec)

/-- ITS FALSE NEIGHBOUR: 'it returns false'. Refute it at one input. -/
def blakeWorksWrong : ChangeSpec := { name := "blakeWorks", fn := fun _ => fun
  | [d1, d2, d3, d4] => { results := [.lit (.bool false)], args := [d1, d2, d3, d4] }
  | _ => none }
def BlakeWorksWrongFalsely : Prop := blakeWorksRow.holds Try.pinned (OpenSpec.ofChange blakeWorksWrong)

/-- 'pianolalaw02.BlakeStirs': WHATEVER THE INPUT: true; the input reads as it did. -/
def blakeStirsSpec : ChangeSpec := { name := "blakeStirs", fn := fun _ => fun
  | [d1, d2, d3, d4] => { results := [.lit (.bool true)], args := [d1, d2, d3, d4] }
  | _ => none }
def blakeStirsRow : OpenClaim := { program := "ytnmooepmpebepaa", sum := "dfbcc11945a31ee1c5750dfe95e89635170f840e06fdc5d532026b8cc3fda2c8", func := "pianola/pianolalaw02.BlakeStirs", spec := "blakeStirs", recurses := true, apart := false }
def BlakeStirsSaid : Prop := blakeStirsRow.holds Try.pinned (OpenSpec.ofChange blakeStirsSpec)

/-- ITS FALSE NEIGHBOUR: 'it returns false'. Refute it at one input. -/
def blakeStirsWrong : ChangeSpec := { name := "blakeStirs", fn := fun _ => fun
  | [d1, d2, d3, d4] => { results := [.lit (.bool false)], args := [d1, d2, d3, d4] }
  | _ => none }
def BlakeStirsWrongFalsely : Prop := blakeStirsRow.holds Try.pinned (OpenSpec.ofChange blakeStirsWrong)

/- THE SECOND FORM. 'bulk': how many values and letters a reading holds, each counted each time it is reached (what is shared counts as often as it is met; a slice's spare places count too). A statement '..UptoSaid' is the law's where the arguments, and the package variables that the reading takes, are together of bulk at most 1048576: NARROWER than '..Said'. Prove '..Said' where nothing that the law and all that it calls make is longer than what came in: it says more and counts as full. Else prove '..UptoSaid'. A law counts once. -/
mutual
def uptoBulk {H : Type} : DataW H → Nat
  | .lit (.string bytes) => bytes.length + 1
  | .lit _ => 1
  | .nil => 1
  | .ptr d => uptoBulk d + 1
  | .slice elems spare => uptoBulkAll elems + uptoBulkAll spare + 1
  | .agg parts => uptoBulkAll parts + 1
  | .iface _ d => uptoBulk d + 1
  | .map entries => uptoBulkEntries entries + 1
  | .held _ => 1
def uptoBulkAll {H : Type} : List (DataW H) → Nat
  | [] => 0
  | d :: r => uptoBulk d + uptoBulkAll r
def uptoBulkEntries {H : Type} : List (Lit × DataW H) → Nat
  | [] => 0
  | x :: r => uptoBulkEntry x + uptoBulkEntries r
def uptoBulkEntry {H : Type} : Lit × DataW H → Nat
  | (.string bytes, d) => bytes.length + uptoBulk d + 1
  | (_, d) => uptoBulk d + 1
 end
def uptoSmall : (H : Type) → List (DataW H) → Bool := fun _ ds => decide (uptoBulkAll ds ≤ 1048576)
def OpenSpec.upto (s : _root_.Go.ChangeSpec) : _root_.Go.OpenSpec := { _root_.Go.OpenSpec.ofChange s with cond := some uptoSmall }

/-- 'pianolalaw02.BlakeGoes', WHERE WHAT IT READS IS OF BULK AT MOST 1048576: true; the input reads as it did. -/
def blakeGoesUptoRow : OpenClaim := { program := "ytnmooepmpebepaa", sum := "dfbcc11945a31ee1c5750dfe95e89635170f840e06fdc5d532026b8cc3fda2c8", func := "pianola/pianolalaw02.BlakeGoes", spec := "blakeGoes", recurses := true, apart := false, narrowed := true }
def BlakeGoesUptoSaid : Prop := blakeGoesUptoRow.holds Try.pinned (OpenSpec.upto blakeGoesSpec)

/-- 'pianolalaw02.BlakeTexts', WHERE WHAT IT READS IS OF BULK AT MOST 1048576: true; the input reads as it did. -/
def blakeTextsUptoRow : OpenClaim := { program := "ytnmooepmpebepaa", sum := "dfbcc11945a31ee1c5750dfe95e89635170f840e06fdc5d532026b8cc3fda2c8", func := "pianola/pianolalaw02.BlakeTexts", spec := "blakeTexts", recurses := true, apart := false, narrowed := true }
def BlakeTextsUptoSaid : Prop := blakeTextsUptoRow.holds Try.pinned (OpenSpec.upto blakeTextsSpec)

/-- 'pianolalaw02.BlakeBlocks', WHERE WHAT IT READS IS OF BULK AT MOST 1048576: true; the input reads as it did. -/
def blakeBlocksUptoRow : OpenClaim := { program := "ytnmooepmpebepaa", sum := "dfbcc11945a31ee1c5750dfe95e89635170f840e06fdc5d532026b8cc3fda2c8", func := "pianola/pianolalaw02.BlakeBlocks", spec := "blakeBlocks", recurses := true, apart := false, narrowed := true }
def BlakeBlocksUptoSaid : Prop := blakeBlocksUptoRow.holds Try.pinned (OpenSpec.upto blakeBlocksSpec)

/-- 'pianolalaw02.BlakeBack', WHERE WHAT IT READS IS OF BULK AT MOST 1048576: true; the input reads as it did. -/
def blakeBackUptoRow : OpenClaim := { program := "ytnmooepmpebepaa", sum := "dfbcc11945a31ee1c5750dfe95e89635170f840e06fdc5d532026b8cc3fda2c8", func := "pianola/pianolalaw02.BlakeBack", spec := "blakeBack", recurses := true, apart := false, narrowed := true }
def BlakeBackUptoSaid : Prop := blakeBackUptoRow.holds Try.pinned (OpenSpec.upto blakeBackSpec)

/-- 'pianolalaw02.BlakeSums', WHERE WHAT IT READS IS OF BULK AT MOST 1048576: true; the input reads as it did. -/
def blakeSumsUptoRow : OpenClaim := { program := "ytnmooepmpebepaa", sum := "dfbcc11945a31ee1c5750dfe95e89635170f840e06fdc5d532026b8cc3fda2c8", func := "pianola/pianolalaw02.BlakeSums", spec := "blakeSums", recurses := true, apart := false, narrowed := true }
def BlakeSumsUptoSaid : Prop := blakeSumsUptoRow.holds Try.pinned (OpenSpec.upto blakeSumsSpec)

/-- 'pianolalaw02.BlakeWorks', WHERE WHAT IT READS IS OF BULK AT MOST 1048576: true; the input reads as it did. -/
def blakeWorksUptoRow : OpenClaim := { program := "ytnmooepmpebepaa", sum := "dfbcc11945a31ee1c5750dfe95e89635170f840e06fdc5d532026b8cc3fda2c8", func := "pianola/pianolalaw02.BlakeWorks", spec := "blakeWorks", recurses := true, apart := false, narrowed := true }
def BlakeWorksUptoSaid : Prop := blakeWorksUptoRow.holds Try.pinned (OpenSpec.upto blakeWorksSpec)

/-- 'pianolalaw02.BlakeStirs', WHERE WHAT IT READS IS OF BULK AT MOST 1048576: true; the input reads as it did. -/
def blakeStirsUptoRow : OpenClaim := { program := "ytnmooepmpebepaa", sum := "dfbcc11945a31ee1c5750dfe95e89635170f840e06fdc5d532026b8cc3fda2c8", func := "pianola/pianolalaw02.BlakeStirs", spec := "blakeStirs", recurses := true, apart := false, narrowed := true }
def BlakeStirsUptoSaid : Prop := blakeStirsUptoRow.holds Try.pinned (OpenSpec.upto blakeStirsSpec)

end Rows
end Go.Proofs.Ytnmooepmpebepaa

/-
  No cell of these rows narrows 'for every input' (looked for: loops, veiled, ifaces, maps, wideKeys, modest, calm, conditions, laid).
  DERIVED. THE GIVEN ROWS OF THIS SEAT. 16 by the template 'for every input the law returns true; each argument reads behind the call as it read before'; 0 by the template 'total and deterministic' (their statements: YtjddcaimjofihaaTotals.lean).
  GIVEN WITH THE SEED: the statements are not yours to turn. If you find one false, say at which input.
  Laid BY PROGRAM, IN A SANDBOX (cutbox-rows.mjs): the forced cells as the released guide's own fill.sh prints them over the translation ec68d01e13abee9b… (all of the seat's roots in one cut). By AI agents, Wed Nov 11 2026. No macro, syntax, notation, axiom, sorry.
-/
import Derived.Test.YtjddcaimjofihaaChecked
import GoSem.Claim
import GoSem.ClaimJoined
import GoSem.ClaimMapViews
import Derived.JoinedTies
import Derived.KernelRfl
namespace Go.Proofs.Ytjddcaimjofihaa
/- THE CELL 'sum', in the pinned program and in every row, IS THE sha256 OF THE DUMP (.gsa) THAT YtjddcaimjofihaaProg.lean LOADS. Nothing in Lean hashes anything: it is a label: what it is worth is what the hold of that sum in a sandbox is worth. -/
noncomputable def Try.pinned : Pinned := { name := "ytjddcaimjofihaa", sum := "ec68d01e13abee9b22adeb6c6e0947f689e487dfa864a2c5c92bfc03e18fb0f9", checked := Try.checked }
namespace Rows
def none {H : Type} : Left H := { results := [], args := [] }

/-- 'isatislaw05.CaskBounds': WHATEVER THE INPUT: true; the input reads as it did. -/
def caskBoundsSpec : ChangeSpec := { name := "caskBounds", fn := fun _ => fun
  | [d1, d2, d3] => { results := [.lit (.bool true)], args := [d1, d2, d3] }
  | _ => none }
def caskBoundsRow : OpenClaim := { program := "ytjddcaimjofihaa", sum := "ec68d01e13abee9b22adeb6c6e0947f689e487dfa864a2c5c92bfc03e18fb0f9", func := "isatis/isatislaw05.CaskBounds", spec := "caskBounds", unfollowed := true, recurses := true, plainKeys := false, apart := false }
def CaskBoundsSaid : Prop := caskBoundsRow.holds Try.pinned (OpenSpec.ofChange caskBoundsSpec)

/-- ITS FALSE NEIGHBOUR: 'it returns false'. Refute it at one input. -/
def caskBoundsWrong : ChangeSpec := { name := "caskBounds", fn := fun _ => fun
  | [d1, d2, d3] => { results := [.lit (.bool false)], args := [d1, d2, d3] }
  | _ => none }
def CaskBoundsWrongFalsely : Prop := caskBoundsRow.holds Try.pinned (OpenSpec.ofChange caskBoundsWrong)

/-- 'isatislaw05.CaskLeaves': WHATEVER THE INPUT: true; the input reads as it did. -/
def caskLeavesSpec : ChangeSpec := { name := "caskLeaves", fn := fun _ => fun
  | [d] => { results := [.lit (.bool true)], args := [d] }
  | _ => none }
def caskLeavesRow : OpenClaim := { program := "ytjddcaimjofihaa", sum := "ec68d01e13abee9b22adeb6c6e0947f689e487dfa864a2c5c92bfc03e18fb0f9", func := "isatis/isatislaw05.CaskLeaves", spec := "caskLeaves", unfollowed := true, recurses := true, plainKeys := false, apart := false }
def CaskLeavesSaid : Prop := caskLeavesRow.holds Try.pinned (OpenSpec.ofChange caskLeavesSpec)

/-- ITS FALSE NEIGHBOUR: 'it returns false'. Refute it at one input. -/
def caskLeavesWrong : ChangeSpec := { name := "caskLeaves", fn := fun _ => fun
  | [d] => { results := [.lit (.bool false)], args := [d] }
  | _ => none }
def CaskLeavesWrongFalsely : Prop := caskLeavesRow.holds Try.pinned (OpenSpec.ofChange caskLeavesWrong)

/-- 'isatislaw05.CaskEnds': WHATEVER THE INPUT: true; the input reads as it did. -/
def caskEndsSpec : ChangeSpec := { name := "caskEnds", fn := fun _ => fun
  | [d1, d2] => { results := [.lit (.bool true)], args := [d1, d2] }
  | _ => none }
def caskEndsRow : OpenClaim := { program := "ytjddcaimjofihaa", sum := "ec68d01e13abee9b22adeb6c6e0947f689e487dfa864a2c5c92bfc03e18fb0f9", func := "isatis/isatislaw05.CaskEnds", spec := "caskEnds", unfollowed := true, recurses := true, plainKeys := false, apart := false }
def CaskEndsSaid : Prop := caskEndsRow.holds Try.pinned (OpenSpec.ofChange caskEndsSpec)

/-- ITS FALSE NEIGHBOUR: 'it returns false'. Refute it at one input. -/
def caskEndsWrong : ChangeSpec := { name := "caskEnds", fn := fun _ => fun
  | [d1, d2] => { results := [.lit (.bool false)], args := [d1, d2] }
  | _ => none }
def CaskEndsWrongFalsely : Prop := caskEndsRow.holds Try.pinned (OpenSpec.ofChange caskEndsWrong)

/-- 'isatislaw05.CaskMean': WHATEVER THE INPUT: true; the input reads as it did. -/
def caskMeanSpec : ChangeSpec := { name := "caskMean", fn := fun _ => fun
  | [d1, d2, d3, d4, d5] => { results := [.lit (.bool true)], args := [d1, d2, d3, d4, d5] }
  | _ => none }
def caskMeanRow : OpenClaim := { program := "ytjddcaimjofihaa", sum := "ec68d01e13abee9b22adeb6c6e0947f689e487dfa864a2c5c92bfc03e18fb0f9", func := "isatis/isatislaw05.CaskMean", spec := "caskMean", unfollowed := true, recurses := true, plainKeys := false, apart := false }
def CaskMeanSaid : Prop := caskMeanRow.holds Try.pinned (OpenSpec.ofChange caskMeanSpec)

/-- ITS FALSE NEIGHBOUR: 'it returns false'. Refute it at one input. -/
def caskMeanWrong : ChangeSpec := { name := "caskMean", fn := fun _ => fun
  | [d1, d2, d3, d4, d5] => { results := [.lit (.bool false)], args := [d1, d2, d3, d4, d5] }
  | _ => none }
def CaskMeanWrongFalsely : Prop := caskMeanRow.holds Try.pinned (OpenSpec.ofChange caskMeanWrong)

/-- 'isatislaw05.CaskWider': WHATEVER THE INPUT: true; the input reads as it did. -/
def caskWiderSpec : ChangeSpec := { name := "caskWider", fn := fun _ => fun
  | [d1, d2, d3] => { results := [.lit (.bool true)], args := [d1, d2, d3] }
  | _ => none }
def caskWiderRow : OpenClaim := { program := "ytjddcaimjofihaa", sum := "ec68d01e13abee9b22adeb6c6e0947f689e487dfa864a2c5c92bfc03e18fb0f9", func := "isatis/isatislaw05.CaskWider", spec := "caskWider", unfollowed := true, recurses := true, plainKeys := false, apart := false }
def CaskWiderSaid : Prop := caskWiderRow.holds Try.pinned (OpenSpec.ofChange caskWiderSpec)

/-- ITS FALSE NEIGHBOUR: 'it returns false'. Refute it at one input. -/
def caskWiderWrong : ChangeSpec := { name := "caskWider", fn := fun _ => fun
  | [d1, d2, d3] => { results := [.lit (.bool false)], args := [d1, d2, d3] }
  | _ => none }
def CaskWiderWrongFalsely : Prop := caskWiderRow.holds Try.pinned (OpenSpec.ofChange caskWiderWrong)

/-- 'isatislaw05.CaskGrades': WHATEVER THE INPUT: true; the input reads as it did. -/
def caskGradesSpec : ChangeSpec := { name := "caskGrades", fn := fun _ => fun
  | [d1, d2, d3, d4] => { results := [.lit (.bool true)], args := [d1, d2, d3, d4] }
  | _ => none }
def caskGradesRow : OpenClaim := { program := "ytjddcaimjofihaa", sum := "ec68d01e13abee9b22adeb6c6e0947f689e487dfa864a2c5c92bfc03e18fb0f9", func := "isatis/isatislaw05.CaskGrades", spec := "caskGrades", unfollowed := true, recurses := true, plainKeys := false, apart := false }
def CaskGradesSaid : Prop := caskGradesRow.holds Try.pinned (OpenSpec.ofChange caskGradesSpec)

/-- ITS FALSE NEIGHBOUR: 'it returns false'. Refute it at one input. -/
def caskGradesWrong : ChangeSpec := { name := "caskGrades", fn := fun _ => fun
  | [d1, d2, d3, d4] => { results := [.lit (.bool false)], args := [d1, d2, d3, d4] }
  | _ => none }
def CaskGradesWrongFalsely : Prop := caskGradesRow.holds Try.pinned (OpenSpec.ofChange caskGradesWrong)

/-- 'isatislaw05.CaskFirst': WHATEVER THE INPUT: true; the input reads as it did. -/
def caskFirstSpec : ChangeSpec := { name := "caskFirst", fn := fun _ => fun
  | [d] => { results := [.lit (.bool true)], args := [d] }
  | _ => none }
def caskFirstRow : OpenClaim := { program := "ytjddcaimjofihaa", sum := "ec68d01e13abee9b22adeb6c6e0947f689e487dfa864a2c5c92bfc03e18fb0f9", func := "isatis/isatislaw05.CaskFirst", spec := "caskFirst", unfollowed := true, recurses := true, plainKeys := false, apart := false }
def CaskFirstSaid : Prop := caskFirstRow.holds Try.pinned (OpenSpec.ofChange caskFirstSpec)

/-- ITS FALSE NEIGHBOUR: 'it returns false'. Refute it at one input. -/
def caskFirstWrong : ChangeSpec := { name := "caskFirst", fn := fun _ => fun
  | [d] => { results := [.lit (.bool false)], args := [d] }
  | _ => none }
def CaskFirstWrongFalsely : Prop := caskFirstRow.holds Try.pinned (OpenSpec.ofChange caskFirstWrong)

/-- 'isatislaw05.CaskLeft': WHATEVER THE INPUT: true; the input reads as it did. -/
def caskLeftSpec : ChangeSpec := { name := "caskLeft", fn := fun _ => fun
  | [d1, d2] => { results := [.lit (.bool true)], args := [d1, d2] }
  | _ => none }
def caskLeftRow : OpenClaim := { program := "ytjddcaimjofihaa", sum := "ec68d01e13abee9b22adeb6c6e0947f689e487dfa864a2c5c92bfc03e18fb0f9", func := "isatis/isatislaw05.CaskLeft", spec := "caskLeft", unfollowed := true, recurses := true, plainKeys := false, apart := false }
def CaskLeftSaid : Prop := caskLeftRow.holds Try.pinned (OpenSpec.ofChange caskLeftSpec)

/-- ITS FALSE NEIGHBOUR: 'it returns false'. Refute it at one input. -/
def caskLeftWrong : ChangeSpec := { name := "caskLeft", fn := fun _ => fun
  | [d1, d2] => { results := [.lit (.bool false)], args := [d1, d2] }
  | _ => none }
def CaskLeftWrongFalsely : Prop := caskLeftRow.holds Try.pinned (OpenSpec.ofChange caskLeftWrong)

/-- 'isatistop.TopCropped': WHATEVER THE INPUT: true; the input reads as it did. -/
def topCroppedSpec : ChangeSpec := { name := "topCropped", fn := fun _ => fun
  | [d1, d2, d3] => { results := [.lit (.bool true)], args := [d1, d2, d3] }
  | _ => none }
def topCroppedRow : OpenClaim := { program := "ytjddcaimjofihaa", sum := "ec68d01e13abee9b22adeb6c6e0947f689e487dfa864a2c5c92bfc03e18fb0f9", func := "isatis/isatistop.TopCropped", spec := "topCropped", unfollowed := true, recurses := true, plainKeys := false, apart := false }
def TopCroppedSaid : Prop := topCroppedRow.holds Try.pinned (OpenSpec.ofChange topCroppedSpec)

/-- ITS FALSE NEIGHBOUR: 'it returns false'. Refute it at one input. -/
def topCroppedWrong : ChangeSpec := { name := "topCropped", fn := fun _ => fun
  | [d1, d2, d3] => { results := [.lit (.bool false)], args := [d1, d2, d3] }
  | _ => none }
def TopCroppedWrongFalsely : Prop := topCroppedRow.holds Try.pinned (OpenSpec.ofChange topCroppedWrong)

/-- 'isatislaw05.CaskPlays': WHATEVER THE INPUT: true; the input reads as it did. -/
def caskPlaysSpec : ChangeSpec := { name := "caskPlays", fn := fun _ => fun
  | [d1, d2] => { results := [.lit (.bool true)], args := [d1, d2] }
  | _ => none }
def caskPlaysRow : OpenClaim := { program := "ytjddcaimjofihaa", sum := "ec68d01e13abee9b22adeb6c6e0947f689e487dfa864a2c5c92bfc03e18fb0f9", func := "isatis/isatislaw05.CaskPlays", spec := "caskPlays", unfollowed := true, recurses := true, plainKeys := false, apart := false }
def CaskPlaysSaid : Prop := caskPlaysRow.holds Try.pinned (OpenSpec.ofChange caskPlaysSpec)

/-- ITS FALSE NEIGHBOUR: 'it returns false'. Refute it at one input. -/
def caskPlaysWrong : ChangeSpec := { name := "caskPlays", fn := fun _ => fun
  | [d1, d2] => { results := [.lit (.bool false)], args := [d1, d2] }
  | _ => none }
def CaskPlaysWrongFalsely : Prop := caskPlaysRow.holds Try.pinned (OpenSpec.ofChange caskPlaysWrong)

/-- 'isatislaw05.CaskTruth': WHATEVER THE INPUT: true; the input reads as it did. -/
def caskTruthSpec : ChangeSpec := { name := "caskTruth", fn := fun _ => fun
  | [d1, d2, d3, d4] => { results := [.lit (.bool true)], args := [d1, d2, d3, d4] }
  | _ => none }
def caskTruthRow : OpenClaim := { program := "ytjddcaimjofihaa", sum := "ec68d01e13abee9b22adeb6c6e0947f689e487dfa864a2c5c92bfc03e18fb0f9", func := "isatis/isatislaw05.CaskTruth", spec := "caskTruth", unfollowed := true, recurses := true, plainKeys := false, apart := false }
def CaskTruthSaid : Prop := caskTruthRow.holds Try.pinned (OpenSpec.ofChange caskTruthSpec)

/-- ITS FALSE NEIGHBOUR: 'it returns false'. Refute it at one input. -/
def caskTruthWrong : ChangeSpec := { name := "caskTruth", fn := fun _ => fun
  | [d1, d2, d3, d4] => { results := [.lit (.bool false)], args := [d1, d2, d3, d4] }
  | _ => none }
def CaskTruthWrongFalsely : Prop := caskTruthRow.holds Try.pinned (OpenSpec.ofChange caskTruthWrong)

/-- 'isatislaw05.CaskBlends': WHATEVER THE INPUT: true; the input reads as it did. -/
def caskBlendsSpec : ChangeSpec := { name := "caskBlends", fn := fun _ => fun
  | [d1, d2, d3, d4, d5] => { results := [.lit (.bool true)], args := [d1, d2, d3, d4, d5] }
  | _ => none }
def caskBlendsRow : OpenClaim := { program := "ytjddcaimjofihaa", sum := "ec68d01e13abee9b22adeb6c6e0947f689e487dfa864a2c5c92bfc03e18fb0f9", func := "isatis/isatislaw05.CaskBlends", spec := "caskBlends", unfollowed := true, recurses := true, plainKeys := false, apart := false }
def CaskBlendsSaid : Prop := caskBlendsRow.holds Try.pinned (OpenSpec.ofChange caskBlendsSpec)

/-- ITS FALSE NEIGHBOUR: 'it returns false'. Refute it at one input. -/
def caskBlendsWrong : ChangeSpec := { name := "caskBlends", fn := fun _ => fun
  | [d1, d2, d3, d4, d5] => { results := [.lit (.bool false)], args := [d1, d2, d3, d4, d5] }
  | _ => none }
def CaskBlendsWrongFalsely : Prop := caskBlendsRow.holds Try.pinned (OpenSpec.ofChange caskBlendsWrong)

/-- 'isatislaw05.CaskMore': WHATEVER THE INPUT: true; the input reads as it did. -/
def caskMoreSpec : ChangeSpec := { name := "caskMore", fn := fun _ => fun
  | [d1, d2, d3, d4, d5, d6] => { results := [.lit (.bool true)], args := [d1, d2, d3, d4, d5, d6] }
  | _ => none }
def caskMoreRow : OpenClaim := { program := "ytjddcaimjofihaa", sum := "ec68d01e13abee9b22adeb6c6e0947f689e487dfa864a2c5c92bfc03e18fb0f9", func := "isatis/isatislaw05.CaskMore", spec := "caskMore", unfollowed := true, recurses := true, plainKeys := false, apart := false }
def CaskMoreSaid : Prop := caskMoreRow.holds Try.pinned (OpenSpec.ofChange caskMoreSpec)

/-- ITS FALSE NEIGHBOUR: 'it returns false'. Refute it at one input. -/
def caskMoreWrong : ChangeSpec := { name := "caskMore", fn := fun _ => fun
  | [d1, d2, d3, d4, d5, d6] => { results := [.lit (.bool false)], args := [d1, d2, d3, d4, d5, d6] }
  | _ => none }
def CaskMoreWrongFalsely : Prop := caskMoreRow.holds Try.pinned (OpenSpec.ofChange caskMoreWrong)

/-- 'isatislaw05.CaskBlended': WHATEVER THE INPUT: true; the input reads as it did. -/
def caskBlendedSpec : ChangeSpec := { name := "caskBlended", fn := fun _ => fun
  | [d1, d2, d3, d4, d5, d6] => { results := [.lit (.bool true)], args := [d1, d2, d3, d4, d5, d6] }
  | _ => none }
def caskBlendedRow : OpenClaim := { program := "ytjddcaimjofihaa", sum := "ec68d01e13abee9b22adeb6c6e0947f689e487dfa864a2c5c92bfc03e18fb0f9", func := "isatis/isatislaw05.CaskBlended", spec := "caskBlended", unfollowed := true, recurses := true, plainKeys := false, apart := false }
def CaskBlendedSaid : Prop := caskBlendedRow.holds Try.pinned (OpenSpec.ofChange caskBlendedSpec)

/-- ITS FALSE NEIGHBOUR: 'it returns false'. Refute it at one input. -/
def caskBlendedWrong : ChangeSpec := { name := "caskBlended", fn := fun _ => fun
  | [d1, d2, d3, d4, d5, d6] => { results := [.lit (.bool false)], args := [d1, d2, d3, d4, d5, d6] }
  | _ => none }
def CaskBlendedWrongFalsely : Prop := caskBlendedRow.holds Try.pinned (OpenSpec.ofChange caskBlendedWrong)

/-- 'isatislaw05.CaskDecided': WHATEVER THE INPUT: true; the input reads as it did. -/
def caskDecidedSpec : ChangeSpec := { name := "caskDecided", fn := fun _ => fun
  | [d1, d2, d3, d4] => { results := [.lit (.bool true)], args := [d1, d2, d3, d4] }
  | _ => none }
def caskDecidedRow : OpenClaim := { program := "ytjddcaimjofihaa", sum := "ec68d01e13abee9b22adeb6c6e0947f689e487dfa864a2c5c92bfc03e18fb0f9", func := "isatis/isatislaw05.CaskDecided", spec := "caskDecided", unfollowed := true, recurses := true, plainKeys := false, apart := false }
def CaskDecidedSaid : Prop := caskDecidedRow.holds Try.pinned (OpenSpec.ofChange caskDecidedSpec)

/-- ITS FALSE NEIGHBOUR: 'it returns false'. Refute it at one input. -/
def caskDecidedWrong : ChangeSpec := { name := "caskDecided", fn := fun _ => fun
  | [d1, d2, d3, d4] => { results := [.lit (.bool false)], args := [d1, d2, d3, d4] }
  | _ => none }
def CaskDecidedWrongFalsely : Prop := caskDecidedRow.holds Try.pinned (OpenSpec.ofChange caskDecidedWrong)

/-- 'isatislaw05.CaskNames': WHATEVER THE INPUT: true; the input reads as it did. -/
def caskNamesSpec : ChangeSpec := { name := "caskNames", fn := fun _ => fun
  | [] => { results := [.lit (.bool true)], args := [] }
  | _ => none }
def caskNamesRow : OpenClaim := { program := "ytjddcaimjofihaa", sum := "ec68d01e13abee9b22adeb6c6e0947f689e487dfa864a2c5c92bfc03e18fb0f9", func := "isatis/isatislaw05.CaskNames", spec := "caskNames", unfollowed := true, recurses := true, plainKeys := false, apart := false }
def CaskNamesSaid : Prop := caskNamesRow.holds Try.pinned (OpenSpec.ofChange caskNamesSpec)

/-- ITS FALSE NEIGHBOUR: 'it returns false'. Refute it at one input. -/
def caskNamesWrong : ChangeSpec := { name := "caskNames", fn := fun _ => fun
  | [] => { results := [.lit (.bool false)], args := [] }
  | _ => none }
def CaskNamesWrongFalsely : Prop := caskNamesRow.holds Try.pinned (OpenSpec.ofChange caskNamesWrong)

/- THE SECOND FORM. 'bulk': how many values and letters a reading holds, each counted each time it is reached (what is shared counts as often as it is met; a slice's spare places count too). A statement '..UptoSaid' is the law's where the arguments, and the package variables that the reading takes, are together of bulk at most 1048576: NARROWER than '..Said'. Prove '..Said' where nothing that the law and all that it calls make is longer than what came in: it says more and counts as full. Else prove '..UptoSaid'. A law counts once. -/
mutual
def uptoBulk {H : Type} : DataW H → Nat
  | .lit (.string bytes) => bytes.length + 1
  | .lit _ => 1
  | .nil => 1
  | .ptr d => uptoBulk d + 1
  | .slice elems spare => uptoBulkAll elems + uptoBulkAll spare + 1
  | .agg parts => uptoBulkAll parts + 1
  | .iface _ d => uptoBulk d + 1
  | .map entries => uptoBulkEntries entries + 1
  | .held _ => 1
def uptoBulkAll {H : Type} : List (DataW H) → Nat
  | [] => 0
  | d :: r => uptoBulk d + uptoBulkAll r
def uptoBulkEntries {H : Type} : List (Lit × DataW H) → Nat
  | [] => 0
  | x :: r => uptoBulkEntry x + uptoBulkEntries r
def uptoBulkEntry {H : Type} : Lit × DataW H → Nat
  | (.string bytes, d) => bytes.length + uptoBulk d + 1
  | (_, d) => uptoBulk d + 1
 end
def uptoSmall : (H : Type) → List (DataW H) → Bool := fun _ ds => decide (uptoBulkAll ds ≤ 1048576)
def OpenSpec.upto (s : _root_.Go.ChangeSpec) : _root_.Go.OpenSpec := { _root_.Go.OpenSpec.ofChange s with cond := some uptoSmall }

/-- 'isatislaw05.CaskBounds', WHERE WHAT IT READS IS OF BULK AT MOST 1048576: true; the input reads as it did. -/
def caskBoundsUptoRow : OpenClaim := { program := "ytjddcaimjofihaa", sum := "ec68d01e13abee9b22adeb6c6e0947f689e487dfa864a2c5c92bfc03e18fb0f9", func := "isatis/isatislaw05.CaskBounds", spec := "caskBounds", unfollowed := true, recurses := true, plainKeys := false, apart := false, narrowed := true }
def CaskBoundsUptoSaid : Prop := caskBoundsUptoRow.holds Try.pinned (OpenSpec.upto caskBoundsSpec)

/-- 'isatislaw05.CaskLeaves', WHERE WHAT IT READS IS OF BULK AT MOST 1048576: true; the input reads as it did. -/
def caskLeavesUptoRow : OpenClaim := { program := "ytjddcaimjofihaa", sum := "ec68d01e13abee9b22adeb6c6e0947f689e487dfa864a2c5c92bfc03e18fb0f9", func := "isatis/isatislaw05.CaskLeaves", spec := "caskLeaves", unfollowed := true, recurses := true, plainKeys := false, apart := false, narrowed := true }
def CaskLeavesUptoSaid : Prop := caskLeavesUptoRow.holds Try.pinned (OpenSpec.upto caskLeavesSpec)

/-- 'isatislaw05.CaskEnds', WHERE WHAT IT READS IS OF BULK AT MOST 1048576: true; the input reads as it did. -/
def caskEndsUptoRow : OpenClaim := { program := "ytjddcaimjofihaa", sum := "ec68d01e13abee9b22adeb6c6e0947f689e487dfa864a2c5c92bfc03e18fb0f9", func := "isatis/isatislaw05.CaskEnds", spec := "caskEnds", unfollowed := true, recurses := true, plainKeys := false, apart := false, narrowed := true }
def CaskEndsUptoSaid : Prop := caskEndsUptoRow.holds Try.pinned (OpenSpec.upto caskEndsSpec)

/-- 'isatislaw05.CaskMean', WHERE WHAT IT READS IS OF BULK AT MOST 1048576: true; the input reads as it did. -/
def caskMeanUptoRow : OpenClaim := { program := "ytjddcaimjofihaa", sum := "ec68d01e13abee9b22adeb6c6e0947f689e487dfa864a2c5c92bfc03e18fb0f9", func := "isatis/isatislaw05.CaskMean", spec := "caskMean", unfollowed := true, recurses := true, plainKeys := false, apart := false, narrowed := true }
def CaskMeanUptoSaid : Prop := caskMeanUptoRow.holds Try.pinned (OpenSpec.upto caskMeanSpec)

/-- 'isatislaw05.CaskWider', WHERE WHAT IT READS IS OF BULK AT MOST 1048576: true; the input reads as it did. -/
def caskWiderUptoRow : OpenClaim := { program := "ytjddcaimjofihaa", sum := "ec68d01e13abee9b22adeb6c6e0947f689e487dfa864a2c5c92bfc03e18fb0f9", func := "isatis/isatislaw05.CaskWider", spec := "caskWider", unfollowed := true, recurses := true, plainKeys := false, apart := false, narrowed := true }
def CaskWiderUptoSaid : Prop := caskWiderUptoRow.holds Try.pinned (OpenSpec.upto caskWiderSpec)

/-- 'isatislaw05.CaskGrades', WHERE WHAT IT READS IS OF BULK AT MOST 1048576: true; the input reads as it did. -/
def caskGradesUptoRow : OpenClaim := { program := "ytjddcaimjofihaa", sum := "ec68d01e13abee9b22adeb6c6e0947f689e487dfa864a2c5c92bfc03e18fb0f9", func := "isatis/isatislaw05.CaskGrades", spec := "caskGrades", unfollowed := true, recurses := true, plainKeys := false, apart := false, narrowed := true }
def CaskGradesUptoSaid : Prop := caskGradesUptoRow.holds Try.pinned (OpenSpec.upto caskGradesSpec)

/-- 'isatislaw05.CaskFirst', WHERE WHAT IT READS IS OF BULK AT MOST 1048576: true; the input reads as it did. -/
def caskFirstUptoRow : OpenClaim := { program := "ytjddcaimjofihaa", sum := "ec68d01e13abee9b22adeb6c6e0947f689e487dfa864a2c5c92bfc03e18fb0f9", func := "isatis/isatislaw05.CaskFirst", spec := "caskFirst", unfollowed := true, recurses := true, plainKeys := false, apart := false, narrowed := true }
def CaskFirstUptoSaid : Prop := caskFirstUptoRow.holds Try.pinned (OpenSpec.upto caskFirstSpec)

/-- 'isatislaw05.CaskLeft', WHERE WHAT IT READS IS OF BULK AT MOST 1048576: true; the input reads as it did. -/
def caskLeftUptoRow : OpenClaim := { program := "ytjddcaimjofihaa", sum := "ec68d01e13abee9b22adeb6c6e0947f689e487dfa864a2c5c92bfc03e18fb0f9", func := "isatis/isatislaw05.CaskLeft", spec := "caskLeft", unfollowed := true, recurses := true, plainKeys := false, apart := false, narrowed := true }
def CaskLeftUptoSaid : Prop := caskLeftUptoRow.holds Try.pinned (OpenSpec.upto caskLeftSpec)

/-- 'isatistop.TopCropped', WHERE WHAT IT READS IS OF BULK AT MOST 1048576: true; the input reads as it did. -/
def topCroppedUptoRow : OpenClaim := { program := "ytjddcaimjofihaa", sum := "ec68d01e13abee9b22adeb6c6e0947f689e487dfa864a2c5c92bfc03e18fb0f9", func := "isatis/isatistop.TopCropped", spec := "topCropped", unfollowed := true, recurses := true, plainKeys := false, apart := false, narrowed := true }
def TopCroppedUptoSaid : Prop := topCroppedUptoRow.holds Try.pinned (OpenSpec.upto topCroppedSpec)

/-- 'isatislaw05.CaskPlays', WHERE WHAT IT READS IS OF BULK AT MOST 1048576: true; the input reads as it did. -/
def caskPlaysUptoRow : OpenClaim := { program := "ytjddcaimjofihaa", sum := "ec68d01e13abee9b22adeb6c6e0947f689e487dfa864a2c5c92bfc03e18fb0f9", func := "isatis/isatislaw05.CaskPlays", spec := "caskPlays", unfollowed := true, recurses := true, plainKeys := false, apart := false, narrowed := true }
def CaskPlaysUptoSaid : Prop := caskPlaysUptoRow.holds Try.pinned (OpenSpec.upto caskPlaysSpec)

/-- 'isatislaw05.CaskTruth', WHERE WHAT IT READS IS OF BULK AT MOST 1048576: true; the input reads as it did. -/
def caskTruthUptoRow : OpenClaim := { program := "ytjddcaimjofihaa", sum := "ec68d01e13abee9b22adeb6c6e0947f689e487dfa864a2c5c92bfc03e18fb0f9", func := "isatis/isatislaw05.CaskTruth", spec := "caskTruth", unfollowed := true, recurses := true, plainKeys := false, apart := false, narrowed := true }
def CaskTruthUptoSaid : Prop := caskTruthUptoRow.holds Try.pinned (OpenSpec.upto caskTruthSpec)

/-- 'isatislaw05.CaskBlends', WHERE WHAT IT READS IS OF BULK AT MOST 1048576: true; the input reads as it did. -/
def caskBlendsUptoRow : OpenClaim := { program := "ytjddcaimjofihaa", sum := "ec68d01e13abee9b22adeb6c6e0947f689e487dfa864a2c5c92bfc03e18fb0f9", func := "isatis/isatislaw05.CaskBlends", spec := "caskBlends", unfollowed := true, recurses := true, plainKeys := false, apart := false, narrowed := true }
def CaskBlendsUptoSaid : Prop := caskBlendsUptoRow.holds Try.pinned (OpenSpec.upto caskBlendsSpec)

/-- 'isatislaw05.CaskMore', WHERE WHAT IT READS IS OF BULK AT MOST 1048576: true; the input reads as it did. -/
def caskMoreUptoRow : OpenClaim := { program := "ytjddcaimjofihaa", sum := "ec68d01e13abee9b22adeb6c6e0947f689e487dfa864a2c5c92bfc03e18fb0f9", func := "isatis/isatislaw05.CaskMore", spec := "caskMore", unfollowed := true, recurses := true, plainKeys := false, apart := false, narrowed := true }
def CaskMoreUptoSaid : Prop := caskMoreUptoRow.holds Try.pinned (OpenSpec.upto caskMoreSpec)

/-- 'isatislaw05.CaskBlended', WHERE WHAT IT READS IS OF BULK AT MOST 1048576: true; the input reads as it did. -/
def caskBlendedUptoRow : OpenClaim := { program := "ytjddcaimjofihaa", sum := "ec68d01e13abee9b22adeb6c6e0947f689e487dfa864a2c5c92bfc03e18fb0f9", func := "isatis/isatislaw05.CaskBlended", spec := "caskBlended", unfollowed := true, recurses := true, plainKeys := false, apart := false, narrowed := true }
def CaskBlendedUptoSaid : Prop := caskBlendedUptoRow.holds Try.pinned (OpenSpec.upto caskBlendedSpec)

/-- 'isatislaw05.CaskDecided', WHERE WHAT IT READS IS OF BULK AT MOST 1048576: true; the input reads as it did. -/
def caskDecidedUptoRow : OpenClaim := { program := "ytjddcaimjofihaa", sum := "ec68d01e13abee9b22adeb6c6e0947f689e487dfa864a2c5c92bfc03e18fb0f9", func := "isatis/isatislaw05.CaskDecided", spec := "caskDecided", unfollowed := true, recurses := true, plainKeys := false, apart := false, narrowed := true }
def CaskDecidedUptoSaid : Prop := caskDecidedUptoRow.holds Try.pinned (OpenSpec.upto caskDecidedSpec)

/-- 'isatislaw05.CaskNames', WHERE WHAT IT READS IS OF BULK AT MOST 1048576: true; the input reads as it did. -/
def caskNamesUptoRow : OpenClaim := { program := "ytjddcaimjofihaa", sum := "ec68d01e13abee9b22adeb6c6e0947f689e487dfa864a2c5c92bfc03e18fb0f9", func := "isatis/isatislaw05.CaskNames", spec := "caskNames", unfollowed := true, recurses := true, plainKeys := false, apart := false, narrowed := true }
def CaskNamesUptoSaid : Prop := caskNamesUptoRow.holds Try.pinned (OpenSpec.upto caskNamesSpec)

end Rows
end Go.Proofs.Ytjddcaimjofihaa

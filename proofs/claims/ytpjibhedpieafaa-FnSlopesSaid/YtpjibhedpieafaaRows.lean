/-
  No cell of these rows narrows 'for every input' (looked for: loops, veiled, ifaces, maps, wideKeys, modest, calm, conditions, laid).
  DERIVED. THE GIVEN ROWS OF THIS SEAT. 8 by the template 'for every input the law returns true; each argument reads behind the call as it read before'; 0 by the template 'total and deterministic' (their statements: YtpjibhedpieafaaTotals.lean).
  GIVEN WITH THE SEED: the statements are not yours to turn. If you find one false, say at which input.
  Laid BY PROGRAM, IN A SANDBOX (cutbox-rows.mjs): the forced cells as the released guide's own fill.sh prints them over the translation 27a6c6444b525eb5… (all of the seat's roots in one cut). By AI agents, Wed Nov 11 2026. No macro, syntax, notation, axiom, sorry.
-/
import Derived.Test.YtpjibhedpieafaaChecked
import GoSem.Claim
import GoSem.ClaimJoined
import GoSem.ClaimMapViews
import Derived.JoinedTies
import Derived.KernelRfl
namespace Go.Proofs.Ytpjibhedpieafaa
/- THE CELL 'sum', in the pinned program and in every row, IS THE sha256 OF THE DUMP (.gsa) THAT YtpjibhedpieafaaProg.lean LOADS. Nothing in Lean hashes anything: it is a label: what it is worth is what the hold of that sum in a sandbox is worth. -/
noncomputable def Try.pinned : Pinned := { name := "ytpjibhedpieafaa", sum := "27a6c6444b525eb544cf974e093f488f016d7c83fbb15d41b11101915088712f", checked := Try.checked }
namespace Rows
def none {H : Type} : Left H := { results := [], args := [] }

/-- 'laws.FnExactStrokesOf': WHATEVER THE INPUT: true; the input reads as it did. -/
def fnExactStrokesOfSpec : ChangeSpec := { name := "fnExactStrokesOf", fn := fun _ => fun
  | [d] => { results := [.lit (.bool true)], args := [d] }
  | _ => none }
def fnExactStrokesOfRow : OpenClaim := { program := "ytpjibhedpieafaa", sum := "27a6c6444b525eb544cf974e093f488f016d7c83fbb15d41b11101915088712f", func := "loop.example/g01264/laws.FnExactStrokesOf", spec := "fnExactStrokesOf", unfollowed := true, recurses := true, plainKeys := false, apart := false }
def FnExactStrokesOfSaid : Prop := fnExactStrokesOfRow.holds Try.pinned (OpenSpec.ofChange fnExactStrokesOfSpec)

/-- ITS FALSE NEIGHBOUR: 'it returns false'. Refute it at one input. -/
def fnExactStrokesOfWrong : ChangeSpec := { name := "fnExactStrokesOf", fn := fun _ => fun
  | [d] => { results := [.lit (.bool false)], args := [d] }
  | _ => none }
def FnExactStrokesOfWrongFalsely : Prop := fnExactStrokesOfRow.holds Try.pinned (OpenSpec.ofChange fnExactStrokesOfWrong)

/-- 'laws.FnFeet': WHATEVER THE INPUT: true; the input reads as it did. -/
def fnFeetSpec : ChangeSpec := { name := "fnFeet", fn := fun _ => fun
  | [d1, d2] => { results := [.lit (.bool true)], args := [d1, d2] }
  | _ => none }
def fnFeetRow : OpenClaim := { program := "ytpjibhedpieafaa", sum := "27a6c6444b525eb544cf974e093f488f016d7c83fbb15d41b11101915088712f", func := "loop.example/g01264/laws.FnFeet", spec := "fnFeet", unfollowed := true, recurses := true, plainKeys := false, apart := false }
def FnFeetSaid : Prop := fnFeetRow.holds Try.pinned (OpenSpec.ofChange fnFeetSpec)

/-- ITS FALSE NEIGHBOUR: 'it returns false'. Refute it at one input. -/
def fnFeetWrong : ChangeSpec := { name := "fnFeet", fn := fun _ => fun
  | [d1, d2] => { results := [.lit (.bool false)], args := [d1, d2] }
  | _ => none }
def FnFeetWrongFalsely : Prop := fnFeetRow.holds Try.pinned (OpenSpec.ofChange fnFeetWrong)

/-- 'laws.FnExactPhasesFor': WHATEVER THE INPUT: true; the input reads as it did. -/
def fnExactPhasesForSpec : ChangeSpec := { name := "fnExactPhasesFor", fn := fun _ => fun
  | [d1, d2, d3] => { results := [.lit (.bool true)], args := [d1, d2, d3] }
  | _ => none }
def fnExactPhasesForRow : OpenClaim := { program := "ytpjibhedpieafaa", sum := "27a6c6444b525eb544cf974e093f488f016d7c83fbb15d41b11101915088712f", func := "loop.example/g01264/laws.FnExactPhasesFor", spec := "fnExactPhasesFor", unfollowed := true, recurses := true, plainKeys := false, apart := false }
def FnExactPhasesForSaid : Prop := fnExactPhasesForRow.holds Try.pinned (OpenSpec.ofChange fnExactPhasesForSpec)

/-- ITS FALSE NEIGHBOUR: 'it returns false'. Refute it at one input. -/
def fnExactPhasesForWrong : ChangeSpec := { name := "fnExactPhasesFor", fn := fun _ => fun
  | [d1, d2, d3] => { results := [.lit (.bool false)], args := [d1, d2, d3] }
  | _ => none }
def FnExactPhasesForWrongFalsely : Prop := fnExactPhasesForRow.holds Try.pinned (OpenSpec.ofChange fnExactPhasesForWrong)

/-- 'laws.FnMade': WHATEVER THE INPUT: true; the input reads as it did. -/
def fnMadeSpec : ChangeSpec := { name := "fnMade", fn := fun _ => fun
  | [d1, d2] => { results := [.lit (.bool true)], args := [d1, d2] }
  | _ => none }
def fnMadeRow : OpenClaim := { program := "ytpjibhedpieafaa", sum := "27a6c6444b525eb544cf974e093f488f016d7c83fbb15d41b11101915088712f", func := "loop.example/g01264/laws.FnMade", spec := "fnMade", unfollowed := true, recurses := true, plainKeys := false, apart := false }
def FnMadeSaid : Prop := fnMadeRow.holds Try.pinned (OpenSpec.ofChange fnMadeSpec)

/-- ITS FALSE NEIGHBOUR: 'it returns false'. Refute it at one input. -/
def fnMadeWrong : ChangeSpec := { name := "fnMade", fn := fun _ => fun
  | [d1, d2] => { results := [.lit (.bool false)], args := [d1, d2] }
  | _ => none }
def FnMadeWrongFalsely : Prop := fnMadeRow.holds Try.pinned (OpenSpec.ofChange fnMadeWrong)

/-- 'laws.FnClashes': WHATEVER THE INPUT: true; the input reads as it did. -/
def fnClashesSpec : ChangeSpec := { name := "fnClashes", fn := fun _ => fun
  | [d1, d2] => { results := [.lit (.bool true)], args := [d1, d2] }
  | _ => none }
def fnClashesRow : OpenClaim := { program := "ytpjibhedpieafaa", sum := "27a6c6444b525eb544cf974e093f488f016d7c83fbb15d41b11101915088712f", func := "loop.example/g01264/laws.FnClashes", spec := "fnClashes", unfollowed := true, recurses := true, plainKeys := false, apart := false }
def FnClashesSaid : Prop := fnClashesRow.holds Try.pinned (OpenSpec.ofChange fnClashesSpec)

/-- ITS FALSE NEIGHBOUR: 'it returns false'. Refute it at one input. -/
def fnClashesWrong : ChangeSpec := { name := "fnClashes", fn := fun _ => fun
  | [d1, d2] => { results := [.lit (.bool false)], args := [d1, d2] }
  | _ => none }
def FnClashesWrongFalsely : Prop := fnClashesRow.holds Try.pinned (OpenSpec.ofChange fnClashesWrong)

/-- 'laws.FnSlopes': WHATEVER THE INPUT: true; the input reads as it did. -/
def fnSlopesSpec : ChangeSpec := { name := "fnSlopes", fn := fun _ => fun
  | [d1, d2] => { results := [.lit (.bool true)], args := [d1, d2] }
  | _ => none }
def fnSlopesRow : OpenClaim := { program := "ytpjibhedpieafaa", sum := "27a6c6444b525eb544cf974e093f488f016d7c83fbb15d41b11101915088712f", func := "loop.example/g01264/laws.FnSlopes", spec := "fnSlopes", unfollowed := true, recurses := true, plainKeys := false, apart := false }
def FnSlopesSaid : Prop := fnSlopesRow.holds Try.pinned (OpenSpec.ofChange fnSlopesSpec)

/-- ITS FALSE NEIGHBOUR: 'it returns false'. Refute it at one input. -/
def fnSlopesWrong : ChangeSpec := { name := "fnSlopes", fn := fun _ => fun
  | [d1, d2] => { results := [.lit (.bool false)], args := [d1, d2] }
  | _ => none }
def FnSlopesWrongFalsely : Prop := fnSlopesRow.holds Try.pinned (OpenSpec.ofChange fnSlopesWrong)

/-- 'laws.FnExactFillEven': WHATEVER THE INPUT: true; the input reads as it did. -/
def fnExactFillEvenSpec : ChangeSpec := { name := "fnExactFillEven", fn := fun _ => fun
  | [d1, d2] => { results := [.lit (.bool true)], args := [d1, d2] }
  | _ => none }
def fnExactFillEvenRow : OpenClaim := { program := "ytpjibhedpieafaa", sum := "27a6c6444b525eb544cf974e093f488f016d7c83fbb15d41b11101915088712f", func := "loop.example/g01264/laws.FnExactFillEven", spec := "fnExactFillEven", unfollowed := true, recurses := true, plainKeys := false, apart := false }
def FnExactFillEvenSaid : Prop := fnExactFillEvenRow.holds Try.pinned (OpenSpec.ofChange fnExactFillEvenSpec)

/-- ITS FALSE NEIGHBOUR: 'it returns false'. Refute it at one input. -/
def fnExactFillEvenWrong : ChangeSpec := { name := "fnExactFillEven", fn := fun _ => fun
  | [d1, d2] => { results := [.lit (.bool false)], args := [d1, d2] }
  | _ => none }
def FnExactFillEvenWrongFalsely : Prop := fnExactFillEvenRow.holds Try.pinned (OpenSpec.ofChange fnExactFillEvenWrong)

/-- 'laws.FnRounds': WHATEVER THE INPUT: true; the input reads as it did. -/
def fnRoundsSpec : ChangeSpec := { name := "fnRounds", fn := fun _ => fun
  | [d1, d2] => { results := [.lit (.bool true)], args := [d1, d2] }
  | _ => none }
def fnRoundsRow : OpenClaim := { program := "ytpjibhedpieafaa", sum := "27a6c6444b525eb544cf974e093f488f016d7c83fbb15d41b11101915088712f", func := "loop.example/g01264/laws.FnRounds", spec := "fnRounds", unfollowed := true, recurses := true, plainKeys := false, apart := false }
def FnRoundsSaid : Prop := fnRoundsRow.holds Try.pinned (OpenSpec.ofChange fnRoundsSpec)

/-- ITS FALSE NEIGHBOUR: 'it returns false'. Refute it at one input. -/
def fnRoundsWrong : ChangeSpec := { name := "fnRounds", fn := fun _ => fun
  | [d1, d2] => { results := [.lit (.bool false)], args := [d1, d2] }
  | _ => none }
def FnRoundsWrongFalsely : Prop := fnRoundsRow.holds Try.pinned (OpenSpec.ofChange fnRoundsWrong)

/- THE SECOND FORM. 'bulk': how many values and letters a reading holds, each counted each time it is reached (what is shared counts as often as it is met; a slice's spare places count too). A statement '..UptoSaid' is the law's where the arguments, and the package variables that the reading takes, are together of bulk at most 1048576: NARROWER than '..Said'. Prove '..Said' where nothing that the law and all that it calls make is longer than what came in: it says more and counts as full. Else prove '..UptoSaid'. A law counts once. -/
mutual
def uptoBulk {H : Type} : DataW H → Nat
  | .lit (.string bytes) => bytes.length + 1
  | .lit _ => 1
  | .nil => 1
  | .ptr d => uptoBulk d + 1
  | .slice elems spare => uptoBulkAll elems + uptoBulkAll spare + 1
  | .agg parts => uptoBulkAll parts + 1
  | .iface _ d => uptoBulk d + 1
  | .map entries => uptoBulkEntries entries + 1
  | .held _ => 1
def uptoBulkAll {H : Type} : List (DataW H) → Nat
  | [] => 0
  | d :: r => uptoBulk d + uptoBulkAll r
def uptoBulkEntries {H : Type} : List (Lit × DataW H) → Nat
  | [] => 0
  | x :: r => uptoBulkEntry x + uptoBulkEntries r
def uptoBulkEntry {H : Type} : Lit × DataW H → Nat
  | (.string bytes, d) => bytes.length + uptoBulk d + 1
  | (_, d) => uptoBulk d + 1
 end
def uptoSmall : (H : Type) → List (DataW H) → Bool := fun _ ds => decide (uptoBulkAll ds ≤ 1048576)
def OpenSpec.upto (s : _root_.Go.ChangeSpec) : _root_.Go.OpenSpec := { _root_.Go.OpenSpec.ofChange s with cond := some uptoSmall }

/-- 'laws.FnExactStrokesOf', WHERE WHAT IT READS IS OF BULK AT MOST 1048576: true; the input reads as it did. -/
def fnExactStrokesOfUptoRow : OpenClaim := { program := "ytpjibhedpieafaa", sum := "27a6c6444b525eb544cf974e093f488f016d7c83fbb15d41b11101915088712f", func := "loop.example/g01264/laws.FnExactStrokesOf", spec := "fnExactStrokesOf", unfollowed := true, recurses := true, plainKeys := false, apart := false, narrowed := true }
def FnExactStrokesOfUptoSaid : Prop := fnExactStrokesOfUptoRow.holds Try.pinned (OpenSpec.upto fnExactStrokesOfSpec)

/-- 'laws.FnFeet', WHERE WHAT IT READS IS OF BULK AT MOST 1048576: true; the input reads as it did. -/
def fnFeetUptoRow : OpenClaim := { program := "ytpjibhedpieafaa", sum := "27a6c6444b525eb544cf974e093f488f016d7c83fbb15d41b11101915088712f", func := "loop.example/g01264/laws.FnFeet", spec := "fnFeet", unfollowed := true, recurses := true, plainKeys := false, apart := false, narrowed := true }
def FnFeetUptoSaid : Prop := fnFeetUptoRow.holds Try.pinned (OpenSpec.upto fnFeetSpec)

/-- 'laws.FnExactPhasesFor', WHERE WHAT IT READS IS OF BULK AT MOST 1048576: true; the input reads as it did. -/
def fnExactPhasesForUptoRow : OpenClaim := { program := "ytpjibhedpieafaa", sum := "27a6c6444b525eb544cf974e093f488f016d7c83fbb15d41b11101915088712f", func := "loop.example/g01264/laws.FnExactPhasesFor", spec := "fnExactPhasesFor", unfollowed := true, recurses := true, plainKeys := false, apart := false, narrowed := true }
def FnExactPhasesForUptoSaid : Prop := fnExactPhasesForUptoRow.holds Try.pinned (OpenSpec.upto fnExactPhasesForSpec)

/-- 'laws.FnMade', WHERE WHAT IT READS IS OF BULK AT MOST 1048576: true; the input reads as it did. -/
def fnMadeUptoRow : OpenClaim := { program := "ytpjibhedpieafaa", sum := "27a6c6444b525eb544cf974e093f488f016d7c83fbb15d41b11101915088712f", func := "loop.example/g01264/laws.FnMade", spec := "fnMade", unfollowed := true, recurses := true, plainKeys := false, apart := false, narrowed := true }
def FnMadeUptoSaid : Prop := fnMadeUptoRow.holds Try.pinned (OpenSpec.upto fnMadeSpec)

/-- 'laws.FnClashes', WHERE WHAT IT READS IS OF BULK AT MOST 1048576: true; the input reads as it did. -/
def fnClashesUptoRow : OpenClaim := { program := "ytpjibhedpieafaa", sum := "27a6c6444b525eb544cf974e093f488f016d7c83fbb15d41b11101915088712f", func := "loop.example/g01264/laws.FnClashes", spec := "fnClashes", unfollowed := true, recurses := true, plainKeys := false, apart := false, narrowed := true }
def FnClashesUptoSaid : Prop := fnClashesUptoRow.holds Try.pinned (OpenSpec.upto fnClashesSpec)

/-- 'laws.FnSlopes', WHERE WHAT IT READS IS OF BULK AT MOST 1048576: true; the input reads as it did. -/
def fnSlopesUptoRow : OpenClaim := { program := "ytpjibhedpieafaa", sum := "27a6c6444b525eb544cf974e093f488f016d7c83fbb15d41b11101915088712f", func := "loop.example/g01264/laws.FnSlopes", spec := "fnSlopes", unfollowed := true, recurses := true, plainKeys := false, apart := false, narrowed := true }
def FnSlopesUptoSaid : Prop := fnSlopesUptoRow.holds Try.pinned (OpenSpec.upto fnSlopesSpec)

/-- 'laws.FnExactFillEven', WHERE WHAT IT READS IS OF BULK AT MOST 1048576: true; the input reads as it did. -/
def fnExactFillEvenUptoRow : OpenClaim := { program := "ytpjibhedpieafaa", sum := "27a6c6444b525eb544cf974e093f488f016d7c83fbb15d41b11101915088712f", func := "loop.example/g01264/laws.FnExactFillEven", spec := "fnExactFillEven", unfollowed := true, recurses := true, plainKeys := false, apart := false, narrowed := true }
def FnExactFillEvenUptoSaid : Prop := fnExactFillEvenUptoRow.holds Try.pinned (OpenSpec.upto fnExactFillEvenSpec)

/-- 'laws.FnRounds', WHERE WHAT IT READS IS OF BULK AT MOST 1048576: true; the input reads as it did. -/
def fnRoundsUptoRow : OpenClaim := { program := "ytpjibhedpieafaa", sum := "27a6c6444b525eb544cf974e093f488f016d7c83fbb15d41b11101915088712f", func := "loop.example/g01264/laws.FnRounds", spec := "fnRounds", unfollowed := true, recurses := true, plainKeys := false, apart := false, narrowed := true }
def FnRoundsUptoSaid : Prop := fnRoundsUptoRow.holds Try.pinned (OpenSpec.upto fnRoundsSpec)

end Rows
end Go.Proofs.Ytpjibhedpieafaa

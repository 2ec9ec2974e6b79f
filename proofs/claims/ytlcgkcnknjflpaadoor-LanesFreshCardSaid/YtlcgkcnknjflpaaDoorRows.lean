/-
  NARROWER THAN 'FOR EVERY INPUT', by the rows' own cells (each row's printed sentence says how): LanesGets: laid · LanesSet: laid · LanesBits: laid · LanesSelects: laid · LanesBytes: laid · LanesLists: laid · LanesFresh: laid · LanesMoves: laid · LanesShuffles: laid · LanesBack: laid.
  DERIVED. THE GIVEN ROWS OF THIS SEAT. 10 by the template 'for every input the law returns true; each argument reads behind the call as it read before'; 0 by the template 'total and deterministic' (their statements: YtlcgkcnknjflpaaDoorTotals.lean).
  GIVEN WITH THE SEED: the statements are not yours to turn. If you find one false, say at which input.
  Laid BY PROGRAM, IN A SANDBOX (cutbox-rows.mjs): the forced cells as the released guide's own fill.sh prints them over the translation 5b688252910ca3fb… (all of the seat's roots in one cut). By AI agents, Wed Nov 11 2026. No macro, syntax, notation, axiom, sorry.
-/
import Derived.Test.YtlcgkcnknjflpaaDoorChecked
import GoSem.Claim
import GoSem.ClaimJoined
import GoSem.ClaimMapViews
import Derived.JoinedTies
import Derived.KernelRfl
namespace Go.Proofs.YtlcgkcnknjflpaaDoor
/- THE CELL 'sum', in the pinned program and in every row, IS THE sha256 OF THE DUMP (.gsa) THAT YtlcgkcnknjflpaaDoorProg.lean LOADS. Nothing in Lean hashes anything: it is a label: what it is worth is what the hold of that sum in a sandbox is worth. -/
noncomputable def Tryd.pinned : Pinned := { name := "ytlcgkcnknjflpaadoor", sum := "5b688252910ca3fbbf91586f0c242a1f1c6ca43f652a6bdb31986b7e1ef10454", checked := Tryd.checked }
namespace Rows
def none {H : Type} : Left H := { results := [], args := [] }

/- WHAT THE LISTED PACKAGE-LEVEL VARIABLES READ AS WHEN THE CALL BEGINS. Each datum BY PROGRAM (the guide's laid-datum.mjs) off the statement by which the dump's own 'gosem.cut.vars' lays the variable. In a bare row this is a premise. The card (YtlcgkcnknjflpaaDoorCards.lean) ties it to the program's text. -/
def laid_math_bits_deBruijn64tab {H : Type} : DataW H := .agg [.lit (.int .u8 0), .lit (.int .u8 1), .lit (.int .u8 56), .lit (.int .u8 2), .lit (.int .u8 57), .lit (.int .u8 49), .lit (.int .u8 28), .lit (.int .u8 3), .lit (.int .u8 61), .lit (.int .u8 58), .lit (.int .u8 42), .lit (.int .u8 50), .lit (.int .u8 38), .lit (.int .u8 29), .lit (.int .u8 17), .lit (.int .u8 4), .lit (.int .u8 62), .lit (.int .u8 47), .lit (.int .u8 59), .lit (.int .u8 36), .lit (.int .u8 45), .lit (.int .u8 43), .lit (.int .u8 51), .lit (.int .u8 22), .lit (.int .u8 53), .lit (.int .u8 39), .lit (.int .u8 33), .lit (.int .u8 30), .lit (.int .u8 24), .lit (.int .u8 18), .lit (.int .u8 12), .lit (.int .u8 5), .lit (.int .u8 63), .lit (.int .u8 55), .lit (.int .u8 48), .lit (.int .u8 27), .lit (.int .u8 60), .lit (.int .u8 41), .lit (.int .u8 37), .lit (.int .u8 16), .lit (.int .u8 46), .lit (.int .u8 35), .lit (.int .u8 44), .lit (.int .u8 21), .lit (.int .u8 52), .lit (.int .u8 32), .lit (.int .u8 23), .lit (.int .u8 11), .lit (.int .u8 54), .lit (.int .u8 26), .lit (.int .u8 40), .lit (.int .u8 15), .lit (.int .u8 34), .lit (.int .u8 20), .lit (.int .u8 31), .lit (.int .u8 10), .lit (.int .u8 25), .lit (.int .u8 14), .lit (.int .u8 19), .lit (.int .u8 9), .lit (.int .u8 13), .lit (.int .u8 8), .lit (.int .u8 7), .lit (.int .u8 6)]
def laid_jacquard_ints_widths {H : Type} : DataW H := .agg [.lit (.int .i64 8), .lit (.int .i64 16), .lit (.int .i64 32), .lit (.int .i64 64)]

/-- 'jacquardlaw06.LanesGets': WHATEVER THE INPUT: true; the input reads as it did. -/
def lanesGetsSpec : ChangeSpec := { name := "lanesGets", fn := fun _ => fun
  | [d1, d2, d3, d4] => { results := [.lit (.bool true)], args := [d1, d2, d3, d4] }
  | _ => none }
def lanesGetsRow : OpenClaim := { program := "ytlcgkcnknjflpaadoor", sum := "5b688252910ca3fbbf91586f0c242a1f1c6ca43f652a6bdb31986b7e1ef10454", func := "jacquard/jacquardlaw06.LanesGets", spec := "lanesGets", named := ["jacquard/ints.widths", "math/bits.deBruijn64tab"], apart := false, laid := [("math/bits.deBruijn64tab", laid_math_bits_deBruijn64tab), ("jacquard/ints.widths", laid_jacquard_ints_widths)] }
def LanesGetsSaid : Prop := lanesGetsRow.holds Tryd.pinned (OpenSpec.ofChange lanesGetsSpec)

/-- ITS FALSE NEIGHBOUR: 'it returns false'. Refute it at one input. -/
def lanesGetsWrong : ChangeSpec := { name := "lanesGets", fn := fun _ => fun
  | [d1, d2, d3, d4] => { results := [.lit (.bool false)], args := [d1, d2, d3, d4] }
  | _ => none }
def LanesGetsWrongFalsely : Prop := lanesGetsRow.holds Tryd.pinned (OpenSpec.ofChange lanesGetsWrong)

/-- 'jacquardlaw06.LanesSet': WHATEVER THE INPUT: true; the input reads as it did. -/
def lanesSetSpec : ChangeSpec := { name := "lanesSet", fn := fun _ => fun
  | [d1, d2, d3, d4] => { results := [.lit (.bool true)], args := [d1, d2, d3, d4] }
  | _ => none }
def lanesSetRow : OpenClaim := { program := "ytlcgkcnknjflpaadoor", sum := "5b688252910ca3fbbf91586f0c242a1f1c6ca43f652a6bdb31986b7e1ef10454", func := "jacquard/jacquardlaw06.LanesSet", spec := "lanesSet", named := ["jacquard/ints.widths", "math/bits.deBruijn64tab"], apart := false, laid := [("math/bits.deBruijn64tab", laid_math_bits_deBruijn64tab), ("jacquard/ints.widths", laid_jacquard_ints_widths)] }
def LanesSetSaid : Prop := lanesSetRow.holds Tryd.pinned (OpenSpec.ofChange lanesSetSpec)

/-- ITS FALSE NEIGHBOUR: 'it returns false'. Refute it at one input. -/
def lanesSetWrong : ChangeSpec := { name := "lanesSet", fn := fun _ => fun
  | [d1, d2, d3, d4] => { results := [.lit (.bool false)], args := [d1, d2, d3, d4] }
  | _ => none }
def LanesSetWrongFalsely : Prop := lanesSetRow.holds Tryd.pinned (OpenSpec.ofChange lanesSetWrong)

/-- 'jacquardlaw06.LanesBits': WHATEVER THE INPUT: true; the input reads as it did. -/
def lanesBitsSpec : ChangeSpec := { name := "lanesBits", fn := fun _ => fun
  | [d1, d2, d3, d4] => { results := [.lit (.bool true)], args := [d1, d2, d3, d4] }
  | _ => none }
def lanesBitsRow : OpenClaim := { program := "ytlcgkcnknjflpaadoor", sum := "5b688252910ca3fbbf91586f0c242a1f1c6ca43f652a6bdb31986b7e1ef10454", func := "jacquard/jacquardlaw06.LanesBits", spec := "lanesBits", named := ["jacquard/ints.widths", "math/bits.deBruijn64tab"], apart := false, laid := [("math/bits.deBruijn64tab", laid_math_bits_deBruijn64tab), ("jacquard/ints.widths", laid_jacquard_ints_widths)] }
def LanesBitsSaid : Prop := lanesBitsRow.holds Tryd.pinned (OpenSpec.ofChange lanesBitsSpec)

/-- ITS FALSE NEIGHBOUR: 'it returns false'. Refute it at one input. -/
def lanesBitsWrong : ChangeSpec := { name := "lanesBits", fn := fun _ => fun
  | [d1, d2, d3, d4] => { results := [.lit (.bool false)], args := [d1, d2, d3, d4] }
  | _ => none }
def LanesBitsWrongFalsely : Prop := lanesBitsRow.holds Tryd.pinned (OpenSpec.ofChange lanesBitsWrong)

/-- 'jacquardlaw06.LanesSelects': WHATEVER THE INPUT: true; the input reads as it did. -/
def lanesSelectsSpec : ChangeSpec := { name := "lanesSelects", fn := fun _ => fun
  | [d1, d2, d3] => { results := [.lit (.bool true)], args := [d1, d2, d3] }
  | _ => none }
def lanesSelectsRow : OpenClaim := { program := "ytlcgkcnknjflpaadoor", sum := "5b688252910ca3fbbf91586f0c242a1f1c6ca43f652a6bdb31986b7e1ef10454", func := "jacquard/jacquardlaw06.LanesSelects", spec := "lanesSelects", named := ["jacquard/ints.widths", "math/bits.deBruijn64tab"], apart := false, laid := [("math/bits.deBruijn64tab", laid_math_bits_deBruijn64tab), ("jacquard/ints.widths", laid_jacquard_ints_widths)] }
def LanesSelectsSaid : Prop := lanesSelectsRow.holds Tryd.pinned (OpenSpec.ofChange lanesSelectsSpec)

/-- ITS FALSE NEIGHBOUR: 'it returns false'. Refute it at one input. -/
def lanesSelectsWrong : ChangeSpec := { name := "lanesSelects", fn := fun _ => fun
  | [d1, d2, d3] => { results := [.lit (.bool false)], args := [d1, d2, d3] }
  | _ => none }
def LanesSelectsWrongFalsely : Prop := lanesSelectsRow.holds Tryd.pinned (OpenSpec.ofChange lanesSelectsWrong)

/-- 'jacquardlaw06.LanesBytes': WHATEVER THE INPUT: true; the input reads as it did. -/
def lanesBytesSpec : ChangeSpec := { name := "lanesBytes", fn := fun _ => fun
  | [d1, d2] => { results := [.lit (.bool true)], args := [d1, d2] }
  | _ => none }
def lanesBytesRow : OpenClaim := { program := "ytlcgkcnknjflpaadoor", sum := "5b688252910ca3fbbf91586f0c242a1f1c6ca43f652a6bdb31986b7e1ef10454", func := "jacquard/jacquardlaw06.LanesBytes", spec := "lanesBytes", named := ["jacquard/ints.widths", "math/bits.deBruijn64tab"], apart := false, laid := [("math/bits.deBruijn64tab", laid_math_bits_deBruijn64tab), ("jacquard/ints.widths", laid_jacquard_ints_widths)] }
def LanesBytesSaid : Prop := lanesBytesRow.holds Tryd.pinned (OpenSpec.ofChange lanesBytesSpec)

/-- ITS FALSE NEIGHBOUR: 'it returns false'. Refute it at one input. -/
def lanesBytesWrong : ChangeSpec := { name := "lanesBytes", fn := fun _ => fun
  | [d1, d2] => { results := [.lit (.bool false)], args := [d1, d2] }
  | _ => none }
def LanesBytesWrongFalsely : Prop := lanesBytesRow.holds Tryd.pinned (OpenSpec.ofChange lanesBytesWrong)

/-- 'jacquardlaw06.LanesLists': WHATEVER THE INPUT: true; the input reads as it did. -/
def lanesListsSpec : ChangeSpec := { name := "lanesLists", fn := fun _ => fun
  | [d1, d2, d3, d4] => { results := [.lit (.bool true)], args := [d1, d2, d3, d4] }
  | _ => none }
def lanesListsRow : OpenClaim := { program := "ytlcgkcnknjflpaadoor", sum := "5b688252910ca3fbbf91586f0c242a1f1c6ca43f652a6bdb31986b7e1ef10454", func := "jacquard/jacquardlaw06.LanesLists", spec := "lanesLists", named := ["jacquard/ints.widths", "math/bits.deBruijn64tab"], apart := false, laid := [("math/bits.deBruijn64tab", laid_math_bits_deBruijn64tab), ("jacquard/ints.widths", laid_jacquard_ints_widths)] }
def LanesListsSaid : Prop := lanesListsRow.holds Tryd.pinned (OpenSpec.ofChange lanesListsSpec)

/-- ITS FALSE NEIGHBOUR: 'it returns false'. Refute it at one input. -/
def lanesListsWrong : ChangeSpec := { name := "lanesLists", fn := fun _ => fun
  | [d1, d2, d3, d4] => { results := [.lit (.bool false)], args := [d1, d2, d3, d4] }
  | _ => none }
def LanesListsWrongFalsely : Prop := lanesListsRow.holds Tryd.pinned (OpenSpec.ofChange lanesListsWrong)

/-- 'jacquardlaw06.LanesFresh': WHATEVER THE INPUT: true; the input reads as it did. -/
def lanesFreshSpec : ChangeSpec := { name := "lanesFresh", fn := fun _ => fun
  | [d1, d2, d3] => { results := [.lit (.bool true)], args := [d1, d2, d3] }
  | _ => none }
def lanesFreshRow : OpenClaim := { program := "ytlcgkcnknjflpaadoor", sum := "5b688252910ca3fbbf91586f0c242a1f1c6ca43f652a6bdb31986b7e1ef10454", func := "jacquard/jacquardlaw06.LanesFresh", spec := "lanesFresh", named := ["jacquard/ints.widths", "math/bits.deBruijn64tab"], apart := false, laid := [("math/bits.deBruijn64tab", laid_math_bits_deBruijn64tab), ("jacquard/ints.widths", laid_jacquard_ints_widths)] }
def LanesFreshSaid : Prop := lanesFreshRow.holds Tryd.pinned (OpenSpec.ofChange lanesFreshSpec)

/-- ITS FALSE NEIGHBOUR: 'it returns false'. Refute it at one input. -/
def lanesFreshWrong : ChangeSpec := { name := "lanesFresh", fn := fun _ => fun
  | [d1, d2, d3] => { results := [.lit (.bool false)], args := [d1, d2, d3] }
  | _ => none }
def LanesFreshWrongFalsely : Prop := lanesFreshRow.holds Tryd.pinned (OpenSpec.ofChange lanesFreshWrong)

/-- 'jacquardlaw06.LanesMoves': WHATEVER THE INPUT: true; the input reads as it did. -/
def lanesMovesSpec : ChangeSpec := { name := "lanesMoves", fn := fun _ => fun
  | [d1, d2, d3] => { results := [.lit (.bool true)], args := [d1, d2, d3] }
  | _ => none }
def lanesMovesRow : OpenClaim := { program := "ytlcgkcnknjflpaadoor", sum := "5b688252910ca3fbbf91586f0c242a1f1c6ca43f652a6bdb31986b7e1ef10454", func := "jacquard/jacquardlaw06.LanesMoves", spec := "lanesMoves", named := ["jacquard/ints.widths", "math/bits.deBruijn64tab"], apart := false, laid := [("math/bits.deBruijn64tab", laid_math_bits_deBruijn64tab), ("jacquard/ints.widths", laid_jacquard_ints_widths)] }
def LanesMovesSaid : Prop := lanesMovesRow.holds Tryd.pinned (OpenSpec.ofChange lanesMovesSpec)

/-- ITS FALSE NEIGHBOUR: 'it returns false'. Refute it at one input. -/
def lanesMovesWrong : ChangeSpec := { name := "lanesMoves", fn := fun _ => fun
  | [d1, d2, d3] => { results := [.lit (.bool false)], args := [d1, d2, d3] }
  | _ => none }
def LanesMovesWrongFalsely : Prop := lanesMovesRow.holds Tryd.pinned (OpenSpec.ofChange lanesMovesWrong)

/-- 'jacquardlaw06.LanesShuffles': WHATEVER THE INPUT: true; the input reads as it did. -/
def lanesShufflesSpec : ChangeSpec := { name := "lanesShuffles", fn := fun _ => fun
  | [d1, d2] => { results := [.lit (.bool true)], args := [d1, d2] }
  | _ => none }
def lanesShufflesRow : OpenClaim := { program := "ytlcgkcnknjflpaadoor", sum := "5b688252910ca3fbbf91586f0c242a1f1c6ca43f652a6bdb31986b7e1ef10454", func := "jacquard/jacquardlaw06.LanesShuffles", spec := "lanesShuffles", named := ["jacquard/ints.widths", "math/bits.deBruijn64tab"], apart := false, laid := [("math/bits.deBruijn64tab", laid_math_bits_deBruijn64tab), ("jacquard/ints.widths", laid_jacquard_ints_widths)] }
def LanesShufflesSaid : Prop := lanesShufflesRow.holds Tryd.pinned (OpenSpec.ofChange lanesShufflesSpec)

/-- ITS FALSE NEIGHBOUR: 'it returns false'. Refute it at one input. -/
def lanesShufflesWrong : ChangeSpec := { name := "lanesShuffles", fn := fun _ => fun
  | [d1, d2] => { results := [.lit (.bool false)], args := [d1, d2] }
  | _ => none }
def LanesShufflesWrongFalsely : Prop := lanesShufflesRow.holds Tryd.pinned (OpenSpec.ofChange lanesShufflesWrong)

/-- 'jacquardlaw06.LanesBack': WHATEVER THE INPUT: true; the input reads as it did. -/
def lanesBackSpec : ChangeSpec := { name := "lanesBack", fn := fun _ => fun
  | [d1, d2] => { results := [.lit (.bool true)], args := [d1, d2] }
  | _ => none }
def lanesBackRow : OpenClaim := { program := "ytlcgkcnknjflpaadoor", sum := "5b688252910ca3fbbf91586f0c242a1f1c6ca43f652a6bdb31986b7e1ef10454", func := "jacquard/jacquardlaw06.LanesBack", spec := "lanesBack", named := ["jacquard/ints.widths", "math/bits.deBruijn64tab"], apart := false, laid := [("math/bits.deBruijn64tab", laid_math_bits_deBruijn64tab), ("jacquard/ints.widths", laid_jacquard_ints_widths)] }
def LanesBackSaid : Prop := lanesBackRow.holds Tryd.pinned (OpenSpec.ofChange lanesBackSpec)

/-- ITS FALSE NEIGHBOUR: 'it returns false'. Refute it at one input. -/
def lanesBackWrong : ChangeSpec := { name := "lanesBack", fn := fun _ => fun
  | [d1, d2] => { results := [.lit (.bool false)], args := [d1, d2] }
  | _ => none }
def LanesBackWrongFalsely : Prop := lanesBackRow.holds Tryd.pinned (OpenSpec.ofChange lanesBackWrong)

/- THE SECOND FORM. 'bulk': how many values and letters a reading holds, each counted each time it is reached (what is shared counts as often as it is met; a slice's spare places count too). A statement '..UptoSaid' is the law's where the arguments, and the package variables that the reading takes, are together of bulk at most 1048576: NARROWER than '..Said'. Prove '..Said' where nothing that the law and all that it calls make is longer than what came in: it says more and counts as full. Else prove '..UptoSaid'. A law counts once. -/
mutual
def uptoBulk {H : Type} : DataW H → Nat
  | .lit (.string bytes) => bytes.length + 1
  | .lit _ => 1
  | .nil => 1
  | .ptr d => uptoBulk d + 1
  | .slice elems spare => uptoBulkAll elems + uptoBulkAll spare + 1
  | .agg parts => uptoBulkAll parts + 1
  | .iface _ d => uptoBulk d + 1
  | .map entries => uptoBulkEntries entries + 1
  | .held _ => 1
def uptoBulkAll {H : Type} : List (DataW H) → Nat
  | [] => 0
  | d :: r => uptoBulk d + uptoBulkAll r
def uptoBulkEntries {H : Type} : List (Lit × DataW H) → Nat
  | [] => 0
  | x :: r => uptoBulkEntry x + uptoBulkEntries r
def uptoBulkEntry {H : Type} : Lit × DataW H → Nat
  | (.string bytes, d) => bytes.length + uptoBulk d + 1
  | (_, d) => uptoBulk d + 1
 end
def uptoSmall : (H : Type) → List (DataW H) → Bool := fun _ ds => decide (uptoBulkAll ds ≤ 1048576)
def OpenSpec.upto (s : _root_.Go.ChangeSpec) : _root_.Go.OpenSpec := { _root_.Go.OpenSpec.ofChange s with cond := some uptoSmall }

/-- 'jacquardlaw06.LanesGets', WHERE WHAT IT READS IS OF BULK AT MOST 1048576: true; the input reads as it did. -/
def lanesGetsUptoRow : OpenClaim := { program := "ytlcgkcnknjflpaadoor", sum := "5b688252910ca3fbbf91586f0c242a1f1c6ca43f652a6bdb31986b7e1ef10454", func := "jacquard/jacquardlaw06.LanesGets", spec := "lanesGets", named := ["jacquard/ints.widths", "math/bits.deBruijn64tab"], apart := false, laid := [("math/bits.deBruijn64tab", laid_math_bits_deBruijn64tab), ("jacquard/ints.widths", laid_jacquard_ints_widths)], narrowed := true }
def LanesGetsUptoSaid : Prop := lanesGetsUptoRow.holds Tryd.pinned (OpenSpec.upto lanesGetsSpec)

/-- 'jacquardlaw06.LanesSet', WHERE WHAT IT READS IS OF BULK AT MOST 1048576: true; the input reads as it did. -/
def lanesSetUptoRow : OpenClaim := { program := "ytlcgkcnknjflpaadoor", sum := "5b688252910ca3fbbf91586f0c242a1f1c6ca43f652a6bdb31986b7e1ef10454", func := "jacquard/jacquardlaw06.LanesSet", spec := "lanesSet", named := ["jacquard/ints.widths", "math/bits.deBruijn64tab"], apart := false, laid := [("math/bits.deBruijn64tab", laid_math_bits_deBruijn64tab), ("jacquard/ints.widths", laid_jacquard_ints_widths)], narrowed := true }
def LanesSetUptoSaid : Prop := lanesSetUptoRow.holds Tryd.pinned (OpenSpec.upto lanesSetSpec)

/-- 'jacquardlaw06.LanesBits', WHERE WHAT IT READS IS OF BULK AT MOST 1048576: true; the input reads as it did. -/
def lanesBitsUptoRow : OpenClaim := { program := "ytlcgkcnknjflpaadoor", sum := "5b688252910ca3fbbf91586f0c242a1f1c6ca43f652a6bdb31986b7e1ef10454", func := "jacquard/jacquardlaw06.LanesBits", spec := "lanesBits", named := ["jacquard/ints.widths", "math/bits.deBruijn64tab"], apart := false, laid := [("math/bits.deBruijn64tab", laid_math_bits_deBruijn64tab), ("jacquard/ints.widths", laid_jacquard_ints_widths)], narrowed := true }
def LanesBitsUptoSaid : Prop := lanesBitsUptoRow.holds Tryd.pinned (OpenSpec.upto lanesBitsSpec)

/-- 'jacquardlaw06.LanesSelects', WHERE WHAT IT READS IS OF BULK AT MOST 1048576: true; the input reads as it did. -/
def lanesSelectsUptoRow : OpenClaim := { program := "ytlcgkcnknjflpaadoor", sum := "5b688252910ca3fbbf91586f0c242a1f1c6ca43f652a6bdb31986b7e1ef10454", func := "jacquard/jacquardlaw06.LanesSelects", spec := "lanesSelects", named := ["jacquard/ints.widths", "math/bits.deBruijn64tab"], apart := false, laid := [("math/bits.deBruijn64tab", laid_math_bits_deBruijn64tab), ("jacquard/ints.widths", laid_jacquard_ints_widths)], narrowed := true }
def LanesSelectsUptoSaid : Prop := lanesSelectsUptoRow.holds Tryd.pinned (OpenSpec.upto lanesSelectsSpec)

/-- 'jacquardlaw06.LanesBytes', WHERE WHAT IT READS IS OF BULK AT MOST 1048576: true; the input reads as it did. -/
def lanesBytesUptoRow : OpenClaim := { program := "ytlcgkcnknjflpaadoor", sum := "5b688252910ca3fbbf91586f0c242a1f1c6ca43f652a6bdb31986b7e1ef10454", func := "jacquard/jacquardlaw06.LanesBytes", spec := "lanesBytes", named := ["jacquard/ints.widths", "math/bits.deBruijn64tab"], apart := false, laid := [("math/bits.deBruijn64tab", laid_math_bits_deBruijn64tab), ("jacquard/ints.widths", laid_jacquard_ints_widths)], narrowed := true }
def LanesBytesUptoSaid : Prop := lanesBytesUptoRow.holds Tryd.pinned (OpenSpec.upto lanesBytesSpec)

/-- 'jacquardlaw06.LanesLists', WHERE WHAT IT READS IS OF BULK AT MOST 1048576: true; the input reads as it did. -/
def lanesListsUptoRow : OpenClaim := { program := "ytlcgkcnknjflpaadoor", sum := "5b688252910ca3fbbf91586f0c242a1f1c6ca43f652a6bdb31986b7e1ef10454", func := "jacquard/jacquardlaw06.LanesLists", spec := "lanesLists", named := ["jacquard/ints.widths", "math/bits.deBruijn64tab"], apart := false, laid := [("math/bits.deBruijn64tab", laid_math_bits_deBruijn64tab), ("jacquard/ints.widths", laid_jacquard_ints_widths)], narrowed := true }
def LanesListsUptoSaid : Prop := lanesListsUptoRow.holds Tryd.pinned (OpenSpec.upto lanesListsSpec)

/-- 'jacquardlaw06.LanesFresh', WHERE WHAT IT READS IS OF BULK AT MOST 1048576: true; the input reads as it did. -/
def lanesFreshUptoRow : OpenClaim := { program := "ytlcgkcnknjflpaadoor", sum := "5b688252910ca3fbbf91586f0c242a1f1c6ca43f652a6bdb31986b7e1ef10454", func := "jacquard/jacquardlaw06.LanesFresh", spec := "lanesFresh", named := ["jacquard/ints.widths", "math/bits.deBruijn64tab"], apart := false, laid := [("math/bits.deBruijn64tab", laid_math_bits_deBruijn64tab), ("jacquard/ints.widths", laid_jacquard_ints_widths)], narrowed := true }
def LanesFreshUptoSaid : Prop := lanesFreshUptoRow.holds Tryd.pinned (OpenSpec.upto lanesFreshSpec)

/-- 'jacquardlaw06.LanesMoves', WHERE WHAT IT READS IS OF BULK AT MOST 1048576: true; the input reads as it did. -/
def lanesMovesUptoRow : OpenClaim := { program := "ytlcgkcnknjflpaadoor", sum := "5b688252910ca3fbbf91586f0c242a1f1c6ca43f652a6bdb31986b7e1ef10454", func := "jacquard/jacquardlaw06.LanesMoves", spec := "lanesMoves", named := ["jacquard/ints.widths", "math/bits.deBruijn64tab"], apart := false, laid := [("math/bits.deBruijn64tab", laid_math_bits_deBruijn64tab), ("jacquard/ints.widths", laid_jacquard_ints_widths)], narrowed := true }
def LanesMovesUptoSaid : Prop := lanesMovesUptoRow.holds Tryd.pinned (OpenSpec.upto lanesMovesSpec)

/-- 'jacquardlaw06.LanesShuffles', WHERE WHAT IT READS IS OF BULK AT MOST 1048576: true; the input reads as it did. -/
def lanesShufflesUptoRow : OpenClaim := { program := "ytlcgkcnknjflpaadoor", sum := "5b688252910ca3fbbf91586f0c242a1f1c6ca43f652a6bdb31986b7e1ef10454", func := "jacquard/jacquardlaw06.LanesShuffles", spec := "lanesShuffles", named := ["jacquard/ints.widths", "math/bits.deBruijn64tab"], apart := false, laid := [("math/bits.deBruijn64tab", laid_math_bits_deBruijn64tab), ("jacquard/ints.widths", laid_jacquard_ints_widths)], narrowed := true }
def LanesShufflesUptoSaid : Prop := lanesShufflesUptoRow.holds Tryd.pinned (OpenSpec.upto lanesShufflesSpec)

/-- 'jacquardlaw06.LanesBack', WHERE WHAT IT READS IS OF BULK AT MOST 1048576: true; the input reads as it did. -/
def lanesBackUptoRow : OpenClaim := { program := "ytlcgkcnknjflpaadoor", sum := "5b688252910ca3fbbf91586f0c242a1f1c6ca43f652a6bdb31986b7e1ef10454", func := "jacquard/jacquardlaw06.LanesBack", spec := "lanesBack", named := ["jacquard/ints.widths", "math/bits.deBruijn64tab"], apart := false, laid := [("math/bits.deBruijn64tab", laid_math_bits_deBruijn64tab), ("jacquard/ints.widths", laid_jacquard_ints_widths)], narrowed := true }
def LanesBackUptoSaid : Prop := lanesBackUptoRow.holds Tryd.pinned (OpenSpec.upto lanesBackSpec)

end Rows
end Go.Proofs.YtlcgkcnknjflpaaDoor

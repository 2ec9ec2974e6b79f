/-
  NARROWER THAN 'FOR EVERY INPUT', by the rows' own cells (each row's printed sentence says how): IntsTwo: laid · IntsOne: laid · IntsRing: laid · IntsDivides: laid · IntsTurns: laid · IntsBits: laid · IntsWidths: laid · IntsBack: laid · IntsThan: laid · IntsHeld: laid.
  DERIVED. THE GIVEN ROWS OF THIS SEAT. 10 by the template 'for every input the law returns true; each argument reads behind the call as it read before'; 0 by the template 'total and deterministic' (their statements: YtakonchpkchfhaaDoorTotals.lean).
  GIVEN WITH THE SEED: the statements are not yours to turn. If you find one false, say at which input.
  Laid BY PROGRAM, IN A SANDBOX (cutbox-rows.mjs): the forced cells as the released guide's own fill.sh prints them over the translation 52ce8c88ec3354f8… (all of the seat's roots in one cut). By AI agents, Wed Nov 11 2026. No macro, syntax, notation, axiom, sorry.
-/
import Derived.Test.YtakonchpkchfhaaDoorChecked
import GoSem.Claim
import GoSem.ClaimJoined
import GoSem.ClaimMapViews
import Derived.JoinedTies
import Derived.KernelRfl
namespace Go.Proofs.YtakonchpkchfhaaDoor
/- THE CELL 'sum', in the pinned program and in every row, IS THE sha256 OF THE DUMP (.gsa) THAT YtakonchpkchfhaaDoorProg.lean LOADS. Nothing in Lean hashes anything: it is a label: what it is worth is what the hold of that sum in a sandbox is worth. -/
noncomputable def Tryd.pinned : Pinned := { name := "ytakonchpkchfhaadoor", sum := "52ce8c88ec3354f87544485488600c0218dfa5da3db516c252626ef890589906", checked := Tryd.checked }
namespace Rows
def none {H : Type} : Left H := { results := [], args := [] }

/- WHAT THE LISTED PACKAGE-LEVEL VARIABLES READ AS WHEN THE CALL BEGINS. Each datum BY PROGRAM (the guide's laid-datum.mjs) off the statement by which the dump's own 'gosem.cut.vars' lays the variable. In a bare row this is a premise. The card (YtakonchpkchfhaaDoorCards.lean) ties it to the program's text. -/
def laid_math_bits_deBruijn64tab {H : Type} : DataW H := .agg [.lit (.int .u8 0), .lit (.int .u8 1), .lit (.int .u8 56), .lit (.int .u8 2), .lit (.int .u8 57), .lit (.int .u8 49), .lit (.int .u8 28), .lit (.int .u8 3), .lit (.int .u8 61), .lit (.int .u8 58), .lit (.int .u8 42), .lit (.int .u8 50), .lit (.int .u8 38), .lit (.int .u8 29), .lit (.int .u8 17), .lit (.int .u8 4), .lit (.int .u8 62), .lit (.int .u8 47), .lit (.int .u8 59), .lit (.int .u8 36), .lit (.int .u8 45), .lit (.int .u8 43), .lit (.int .u8 51), .lit (.int .u8 22), .lit (.int .u8 53), .lit (.int .u8 39), .lit (.int .u8 33), .lit (.int .u8 30), .lit (.int .u8 24), .lit (.int .u8 18), .lit (.int .u8 12), .lit (.int .u8 5), .lit (.int .u8 63), .lit (.int .u8 55), .lit (.int .u8 48), .lit (.int .u8 27), .lit (.int .u8 60), .lit (.int .u8 41), .lit (.int .u8 37), .lit (.int .u8 16), .lit (.int .u8 46), .lit (.int .u8 35), .lit (.int .u8 44), .lit (.int .u8 21), .lit (.int .u8 52), .lit (.int .u8 32), .lit (.int .u8 23), .lit (.int .u8 11), .lit (.int .u8 54), .lit (.int .u8 26), .lit (.int .u8 40), .lit (.int .u8 15), .lit (.int .u8 34), .lit (.int .u8 20), .lit (.int .u8 31), .lit (.int .u8 10), .lit (.int .u8 25), .lit (.int .u8 14), .lit (.int .u8 19), .lit (.int .u8 9), .lit (.int .u8 13), .lit (.int .u8 8), .lit (.int .u8 7), .lit (.int .u8 6)]
def laid_jacquard_ints_widths {H : Type} : DataW H := .agg [.lit (.int .i64 8), .lit (.int .i64 16), .lit (.int .i64 32), .lit (.int .i64 64)]

/-- 'jacquardlaw03.IntsTwo': WHATEVER THE INPUT: true; the input reads as it did. -/
def intsTwoSpec : ChangeSpec := { name := "intsTwo", fn := fun _ => fun
  | [d1, d2, d3, d4] => { results := [.lit (.bool true)], args := [d1, d2, d3, d4] }
  | _ => none }
def intsTwoRow : OpenClaim := { program := "ytakonchpkchfhaadoor", sum := "52ce8c88ec3354f87544485488600c0218dfa5da3db516c252626ef890589906", func := "jacquard/jacquardlaw03.IntsTwo", spec := "intsTwo", inPlace := ["math/bits.Add64"], named := ["jacquard/ints.widths", "math/bits.deBruijn64tab"], apart := false, laid := [("math/bits.deBruijn64tab", laid_math_bits_deBruijn64tab), ("jacquard/ints.widths", laid_jacquard_ints_widths)] }
def IntsTwoSaid : Prop := intsTwoRow.holds Tryd.pinned (OpenSpec.ofChange intsTwoSpec)

/-- ITS FALSE NEIGHBOUR: 'it returns false'. Refute it at one input. -/
def intsTwoWrong : ChangeSpec := { name := "intsTwo", fn := fun _ => fun
  | [d1, d2, d3, d4] => { results := [.lit (.bool false)], args := [d1, d2, d3, d4] }
  | _ => none }
def IntsTwoWrongFalsely : Prop := intsTwoRow.holds Tryd.pinned (OpenSpec.ofChange intsTwoWrong)

/-- 'jacquardlaw03.IntsOne': WHATEVER THE INPUT: true; the input reads as it did. -/
def intsOneSpec : ChangeSpec := { name := "intsOne", fn := fun _ => fun
  | [d1, d2, d3] => { results := [.lit (.bool true)], args := [d1, d2, d3] }
  | _ => none }
def intsOneRow : OpenClaim := { program := "ytakonchpkchfhaadoor", sum := "52ce8c88ec3354f87544485488600c0218dfa5da3db516c252626ef890589906", func := "jacquard/jacquardlaw03.IntsOne", spec := "intsOne", inPlace := ["math/bits.Add64"], named := ["jacquard/ints.widths", "math/bits.deBruijn64tab"], apart := false, laid := [("math/bits.deBruijn64tab", laid_math_bits_deBruijn64tab), ("jacquard/ints.widths", laid_jacquard_ints_widths)] }
def IntsOneSaid : Prop := intsOneRow.holds Tryd.pinned (OpenSpec.ofChange intsOneSpec)

/-- ITS FALSE NEIGHBOUR: 'it returns false'. Refute it at one input. -/
def intsOneWrong : ChangeSpec := { name := "intsOne", fn := fun _ => fun
  | [d1, d2, d3] => { results := [.lit (.bool false)], args := [d1, d2, d3] }
  | _ => none }
def IntsOneWrongFalsely : Prop := intsOneRow.holds Tryd.pinned (OpenSpec.ofChange intsOneWrong)

/-- 'jacquardlaw03.IntsRing': WHATEVER THE INPUT: true; the input reads as it did. -/
def intsRingSpec : ChangeSpec := { name := "intsRing", fn := fun _ => fun
  | [d1, d2, d3, d4] => { results := [.lit (.bool true)], args := [d1, d2, d3, d4] }
  | _ => none }
def intsRingRow : OpenClaim := { program := "ytakonchpkchfhaadoor", sum := "52ce8c88ec3354f87544485488600c0218dfa5da3db516c252626ef890589906", func := "jacquard/jacquardlaw03.IntsRing", spec := "intsRing", inPlace := ["math/bits.Add64"], named := ["jacquard/ints.widths", "math/bits.deBruijn64tab"], apart := false, laid := [("math/bits.deBruijn64tab", laid_math_bits_deBruijn64tab), ("jacquard/ints.widths", laid_jacquard_ints_widths)] }
def IntsRingSaid : Prop := intsRingRow.holds Tryd.pinned (OpenSpec.ofChange intsRingSpec)

/-- ITS FALSE NEIGHBOUR: 'it returns false'. Refute it at one input. -/
def intsRingWrong : ChangeSpec := { name := "intsRing", fn := fun _ => fun
  | [d1, d2, d3, d4] => { results := [.lit (.bool false)], args := [d1, d2, d3, d4] }
  | _ => none }
def IntsRingWrongFalsely : Prop := intsRingRow.holds Tryd.pinned (OpenSpec.ofChange intsRingWrong)

/-- 'jacquardlaw03.IntsDivides': WHATEVER THE INPUT: true; the input reads as it did. -/
def intsDividesSpec : ChangeSpec := { name := "intsDivides", fn := fun _ => fun
  | [d1, d2, d3] => { results := [.lit (.bool true)], args := [d1, d2, d3] }
  | _ => none }
def intsDividesRow : OpenClaim := { program := "ytakonchpkchfhaadoor", sum := "52ce8c88ec3354f87544485488600c0218dfa5da3db516c252626ef890589906", func := "jacquard/jacquardlaw03.IntsDivides", spec := "intsDivides", inPlace := ["math/bits.Add64"], named := ["jacquard/ints.widths", "math/bits.deBruijn64tab"], apart := false, laid := [("math/bits.deBruijn64tab", laid_math_bits_deBruijn64tab), ("jacquard/ints.widths", laid_jacquard_ints_widths)] }
def IntsDividesSaid : Prop := intsDividesRow.holds Tryd.pinned (OpenSpec.ofChange intsDividesSpec)

/-- ITS FALSE NEIGHBOUR: 'it returns false'. Refute it at one input. -/
def intsDividesWrong : ChangeSpec := { name := "intsDivides", fn := fun _ => fun
  | [d1, d2, d3] => { results := [.lit (.bool false)], args := [d1, d2, d3] }
  | _ => none }
def IntsDividesWrongFalsely : Prop := intsDividesRow.holds Tryd.pinned (OpenSpec.ofChange intsDividesWrong)

/-- 'jacquardlaw03.IntsTurns': WHATEVER THE INPUT: true; the input reads as it did. -/
def intsTurnsSpec : ChangeSpec := { name := "intsTurns", fn := fun _ => fun
  | [d1, d2, d3] => { results := [.lit (.bool true)], args := [d1, d2, d3] }
  | _ => none }
def intsTurnsRow : OpenClaim := { program := "ytakonchpkchfhaadoor", sum := "52ce8c88ec3354f87544485488600c0218dfa5da3db516c252626ef890589906", func := "jacquard/jacquardlaw03.IntsTurns", spec := "intsTurns", inPlace := ["math/bits.Add64"], named := ["jacquard/ints.widths", "math/bits.deBruijn64tab"], apart := false, laid := [("math/bits.deBruijn64tab", laid_math_bits_deBruijn64tab), ("jacquard/ints.widths", laid_jacquard_ints_widths)] }
def IntsTurnsSaid : Prop := intsTurnsRow.holds Tryd.pinned (OpenSpec.ofChange intsTurnsSpec)

/-- ITS FALSE NEIGHBOUR: 'it returns false'. Refute it at one input. -/
def intsTurnsWrong : ChangeSpec := { name := "intsTurns", fn := fun _ => fun
  | [d1, d2, d3] => { results := [.lit (.bool false)], args := [d1, d2, d3] }
  | _ => none }
def IntsTurnsWrongFalsely : Prop := intsTurnsRow.holds Tryd.pinned (OpenSpec.ofChange intsTurnsWrong)

/-- 'jacquardlaw03.IntsBits': WHATEVER THE INPUT: true; the input reads as it did. -/
def intsBitsSpec : ChangeSpec := { name := "intsBits", fn := fun _ => fun
  | [d1, d2, d3] => { results := [.lit (.bool true)], args := [d1, d2, d3] }
  | _ => none }
def intsBitsRow : OpenClaim := { program := "ytakonchpkchfhaadoor", sum := "52ce8c88ec3354f87544485488600c0218dfa5da3db516c252626ef890589906", func := "jacquard/jacquardlaw03.IntsBits", spec := "intsBits", inPlace := ["math/bits.Add64"], named := ["jacquard/ints.widths", "math/bits.deBruijn64tab"], apart := false, laid := [("math/bits.deBruijn64tab", laid_math_bits_deBruijn64tab), ("jacquard/ints.widths", laid_jacquard_ints_widths)] }
def IntsBitsSaid : Prop := intsBitsRow.holds Tryd.pinned (OpenSpec.ofChange intsBitsSpec)

/-- ITS FALSE NEIGHBOUR: 'it returns false'. Refute it at one input. -/
def intsBitsWrong : ChangeSpec := { name := "intsBits", fn := fun _ => fun
  | [d1, d2, d3] => { results := [.lit (.bool false)], args := [d1, d2, d3] }
  | _ => none }
def IntsBitsWrongFalsely : Prop := intsBitsRow.holds Tryd.pinned (OpenSpec.ofChange intsBitsWrong)

/-- 'jacquardlaw03.IntsWidths': WHATEVER THE INPUT: true; the input reads as it did. -/
def intsWidthsSpec : ChangeSpec := { name := "intsWidths", fn := fun _ => fun
  | [d1, d2, d3, d4] => { results := [.lit (.bool true)], args := [d1, d2, d3, d4] }
  | _ => none }
def intsWidthsRow : OpenClaim := { program := "ytakonchpkchfhaadoor", sum := "52ce8c88ec3354f87544485488600c0218dfa5da3db516c252626ef890589906", func := "jacquard/jacquardlaw03.IntsWidths", spec := "intsWidths", inPlace := ["math/bits.Add64"], named := ["jacquard/ints.widths", "math/bits.deBruijn64tab"], apart := false, laid := [("math/bits.deBruijn64tab", laid_math_bits_deBruijn64tab), ("jacquard/ints.widths", laid_jacquard_ints_widths)] }
def IntsWidthsSaid : Prop := intsWidthsRow.holds Tryd.pinned (OpenSpec.ofChange intsWidthsSpec)

/-- ITS FALSE NEIGHBOUR: 'it returns false'. Refute it at one input. -/
def intsWidthsWrong : ChangeSpec := { name := "intsWidths", fn := fun _ => fun
  | [d1, d2, d3, d4] => { results := [.lit (.bool false)], args := [d1, d2, d3, d4] }
  | _ => none }
def IntsWidthsWrongFalsely : Prop := intsWidthsRow.holds Tryd.pinned (OpenSpec.ofChange intsWidthsWrong)

/-- 'jacquardlaw03.IntsBack': WHATEVER THE INPUT: true; the input reads as it did. -/
def intsBackSpec : ChangeSpec := { name := "intsBack", fn := fun _ => fun
  | [d1, d2, d3] => { results := [.lit (.bool true)], args := [d1, d2, d3] }
  | _ => none }
def intsBackRow : OpenClaim := { program := "ytakonchpkchfhaadoor", sum := "52ce8c88ec3354f87544485488600c0218dfa5da3db516c252626ef890589906", func := "jacquard/jacquardlaw03.IntsBack", spec := "intsBack", inPlace := ["math/bits.Add64"], named := ["jacquard/ints.widths", "math/bits.deBruijn64tab"], apart := false, laid := [("math/bits.deBruijn64tab", laid_math_bits_deBruijn64tab), ("jacquard/ints.widths", laid_jacquard_ints_widths)] }
def IntsBackSaid : Prop := intsBackRow.holds Tryd.pinned (OpenSpec.ofChange intsBackSpec)

/-- ITS FALSE NEIGHBOUR: 'it returns false'. Refute it at one input. -/
def intsBackWrong : ChangeSpec := { name := "intsBack", fn := fun _ => fun
  | [d1, d2, d3] => { results := [.lit (.bool false)], args := [d1, d2, d3] }
  | _ => none }
def IntsBackWrongFalsely : Prop := intsBackRow.holds Tryd.pinned (OpenSpec.ofChange intsBackWrong)

/-- 'jacquardlaw03.IntsThan': WHATEVER THE INPUT: true; the input reads as it did. -/
def intsThanSpec : ChangeSpec := { name := "intsThan", fn := fun _ => fun
  | [d1, d2, d3, d4] => { results := [.lit (.bool true)], args := [d1, d2, d3, d4] }
  | _ => none }
def intsThanRow : OpenClaim := { program := "ytakonchpkchfhaadoor", sum := "52ce8c88ec3354f87544485488600c0218dfa5da3db516c252626ef890589906", func := "jacquard/jacquardlaw03.IntsThan", spec := "intsThan", inPlace := ["math/bits.Add64"], named := ["jacquard/ints.widths", "math/bits.deBruijn64tab"], apart := false, laid := [("math/bits.deBruijn64tab", laid_math_bits_deBruijn64tab), ("jacquard/ints.widths", laid_jacquard_ints_widths)] }
def IntsThanSaid : Prop := intsThanRow.holds Tryd.pinned (OpenSpec.ofChange intsThanSpec)

/-- ITS FALSE NEIGHBOUR: 'it returns false'. Refute it at one input. -/
def intsThanWrong : ChangeSpec := { name := "intsThan", fn := fun _ => fun
  | [d1, d2, d3, d4] => { results := [.lit (.bool false)], args := [d1, d2, d3, d4] }
  | _ => none }
def IntsThanWrongFalsely : Prop := intsThanRow.holds Tryd.pinned (OpenSpec.ofChange intsThanWrong)

/-- 'jacquardlaw03.IntsHeld': WHATEVER THE INPUT: true; the input reads as it did. -/
def intsHeldSpec : ChangeSpec := { name := "intsHeld", fn := fun _ => fun
  | [d1, d2, d3] => { results := [.lit (.bool true)], args := [d1, d2, d3] }
  | _ => none }
def intsHeldRow : OpenClaim := { program := "ytakonchpkchfhaadoor", sum := "52ce8c88ec3354f87544485488600c0218dfa5da3db516c252626ef890589906", func := "jacquard/jacquardlaw03.IntsHeld", spec := "intsHeld", inPlace := ["math/bits.Add64"], named := ["jacquard/ints.widths", "math/bits.deBruijn64tab"], apart := false, laid := [("math/bits.deBruijn64tab", laid_math_bits_deBruijn64tab), ("jacquard/ints.widths", laid_jacquard_ints_widths)] }
def IntsHeldSaid : Prop := intsHeldRow.holds Tryd.pinned (OpenSpec.ofChange intsHeldSpec)

/-- ITS FALSE NEIGHBOUR: 'it returns false'. Refute it at one input. -/
def intsHeldWrong : ChangeSpec := { name := "intsHeld", fn := fun _ => fun
  | [d1, d2, d3] => { results := [.lit (.bool false)], args := [d1, d2, d3] }
  | _ => none }
def IntsHeldWrongFalsely : Prop := intsHeldRow.holds Tryd.pinned (OpenSpec.ofChange intsHeldWrong)

/- THE SECOND FORM. 'bulk': how many values and letters a reading holds, each counted each time it is reached (what is shared counts as often as it is met; a slice's spare places count too). A statement '..UptoSaid' is the law's where the arguments, and the package variables that the reading takes, are together of bulk at most 1048576: NARROWER than '..Said'. Prove '..Said' where nothing that the law and all that it calls make is longer than what came in: it says more and counts as full. Else prove '..UptoSaid'. A law counts once. -/
mutual
def uptoBulk {H : Type} : DataW H → Nat
  | .lit (.string bytes) => bytes.length + 1
  | .lit _ => 1
  | .nil => 1
  | .ptr d => uptoBulk d + 1
  | .slice elems spare => uptoBulkAll elems + uptoBulkAll spare + 1
  | .agg parts => uptoBulkAll parts + 1
  | .iface _ d => uptoBulk d + 1
  | .map entries => uptoBulkEntries entries + 1
  | .held _ => 1
def uptoBulkAll {H : Type} : List (DataW H) → Nat
  | [] => 0
  | d :: r => uptoBulk d + uptoBulkAll r
def uptoBulkEntries {H : Type} : List (Lit × DataW H) → Nat
  | [] => 0
  | x :: r => uptoBulkEntry x + uptoBulkEntries r
def uptoBulkEntry {H : Type} : Lit × DataW H → Nat
  | (.string bytes, d) => bytes.length + uptoBulk d + 1
  | (_, d) => uptoBulk d + 1
 end
def uptoSmall : (H : Type) → List (DataW H) → Bool := fun _ ds => decide (uptoBulkAll ds ≤ 1048576)
def OpenSpec.upto (s : _root_.Go.ChangeSpec) : _root_.Go.OpenSpec := { _root_.Go.OpenSpec.ofChange s with cond := some uptoSmall }

/-- 'jacquardlaw03.IntsTwo', WHERE WHAT IT READS IS OF BULK AT MOST 1048576: true; the input reads as it did. -/
def intsTwoUptoRow : OpenClaim := { program := "ytakonchpkchfhaadoor", sum := "52ce8c88ec3354f87544485488600c0218dfa5da3db516c252626ef890589906", func := "jacquard/jacquardlaw03.IntsTwo", spec := "intsTwo", inPlace := ["math/bits.Add64"], named := ["jacquard/ints.widths", "math/bits.deBruijn64tab"], apart := false, laid := [("math/bits.deBruijn64tab", laid_math_bits_deBruijn64tab), ("jacquard/ints.widths", laid_jacquard_ints_widths)], narrowed := true }
def IntsTwoUptoSaid : Prop := intsTwoUptoRow.holds Tryd.pinned (OpenSpec.upto intsTwoSpec)

/-- 'jacquardlaw03.IntsOne', WHERE WHAT IT READS IS OF BULK AT MOST 1048576: true; the input reads as it did. -/
def intsOneUptoRow : OpenClaim := { program := "ytakonchpkchfhaadoor", sum := "52ce8c88ec3354f87544485488600c0218dfa5da3db516c252626ef890589906", func := "jacquard/jacquardlaw03.IntsOne", spec := "intsOne", inPlace := ["math/bits.Add64"], named := ["jacquard/ints.widths", "math/bits.deBruijn64tab"], apart := false, laid := [("math/bits.deBruijn64tab", laid_math_bits_deBruijn64tab), ("jacquard/ints.widths", laid_jacquard_ints_widths)], narrowed := true }
def IntsOneUptoSaid : Prop := intsOneUptoRow.holds Tryd.pinned (OpenSpec.upto intsOneSpec)

/-- 'jacquardlaw03.IntsRing', WHERE WHAT IT READS IS OF BULK AT MOST 1048576: true; the input reads as it did. -/
def intsRingUptoRow : OpenClaim := { program := "ytakonchpkchfhaadoor", sum := "52ce8c88ec3354f87544485488600c0218dfa5da3db516c252626ef890589906", func := "jacquard/jacquardlaw03.IntsRing", spec := "intsRing", inPlace := ["math/bits.Add64"], named := ["jacquard/ints.widths", "math/bits.deBruijn64tab"], apart := false, laid := [("math/bits.deBruijn64tab", laid_math_bits_deBruijn64tab), ("jacquard/ints.widths", laid_jacquard_ints_widths)], narrowed := true }
def IntsRingUptoSaid : Prop := intsRingUptoRow.holds Tryd.pinned (OpenSpec.upto intsRingSpec)

/-- 'jacquardlaw03.IntsDivides', WHERE WHAT IT READS IS OF BULK AT MOST 1048576: true; the input reads as it did. -/
def intsDividesUptoRow : OpenClaim := { program := "ytakonchpkchfhaadoor", sum := "52ce8c88ec3354f87544485488600c0218dfa5da3db516c252626ef890589906", func := "jacquard/jacquardlaw03.IntsDivides", spec := "intsDivides", inPlace := ["math/bits.Add64"], named := ["jacquard/ints.widths", "math/bits.deBruijn64tab"], apart := false, laid := [("math/bits.deBruijn64tab", laid_math_bits_deBruijn64tab), ("jacquard/ints.widths", laid_jacquard_ints_widths)], narrowed := true }
def IntsDividesUptoSaid : Prop := intsDividesUptoRow.holds Tryd.pinned (OpenSpec.upto intsDividesSpec)

/-- 'jacquardlaw03.IntsTurns', WHERE WHAT IT READS IS OF BULK AT MOST 1048576: true; the input reads as it did. -/
def intsTurnsUptoRow : OpenClaim := { program := "ytakonchpkchfhaadoor", sum := "52ce8c88ec3354f87544485488600c0218dfa5da3db516c252626ef890589906", func := "jacquard/jacquardlaw03.IntsTurns", spec := "intsTurns", inPlace := ["math/bits.Add64"], named := ["jacquard/ints.widths", "math/bits.deBruijn64tab"], apart := false, laid := [("math/bits.deBruijn64tab", laid_math_bits_deBruijn64tab), ("jacquard/ints.widths", laid_jacquard_ints_widths)], narrowed := true }
def IntsTurnsUptoSaid : Prop := intsTurnsUptoRow.holds Tryd.pinned (OpenSpec.upto intsTurnsSpec)

/-- 'jacquardlaw03.IntsBits', WHERE WHAT IT READS IS OF BULK AT MOST 1048576: true; the input reads as it did. -/
def intsBitsUptoRow : OpenClaim := { program := "ytakonchpkchfhaadoor", sum := "52ce8c88ec3354f87544485488600c0218dfa5da3db516c252626ef890589906", func := "jacquard/jacquardlaw03.IntsBits", spec := "intsBits", inPlace := ["math/bits.Add64"], named := ["jacquard/ints.widths", "math/bits.deBruijn64tab"], apart := false, laid := [("math/bits.deBruijn64tab", laid_math_bits_deBruijn64tab), ("jacquard/ints.widths", laid_jacquard_ints_widths)], narrowed := true }
def IntsBitsUptoSaid : Prop := intsBitsUptoRow.holds Tryd.pinned (OpenSpec.upto intsBitsSpec)

/-- 'jacquardlaw03.IntsWidths', WHERE WHAT IT READS IS OF BULK AT MOST 1048576: true; the input reads as it did. -/
def intsWidthsUptoRow : OpenClaim := { program := "ytakonchpkchfhaadoor", sum := "52ce8c88ec3354f87544485488600c0218dfa5da3db516c252626ef890589906", func := "jacquard/jacquardlaw03.IntsWidths", spec := "intsWidths", inPlace := ["math/bits.Add64"], named := ["jacquard/ints.widths", "math/bits.deBruijn64tab"], apart := false, laid := [("math/bits.deBruijn64tab", laid_math_bits_deBruijn64tab), ("jacquard/ints.widths", laid_jacquard_ints_widths)], narrowed := true }
def IntsWidthsUptoSaid : Prop := intsWidthsUptoRow.holds Tryd.pinned (OpenSpec.upto intsWidthsSpec)

/-- 'jacquardlaw03.IntsBack', WHERE WHAT IT READS IS OF BULK AT MOST 1048576: true; the input reads as it did. -/
def intsBackUptoRow : OpenClaim := { program := "ytakonchpkchfhaadoor", sum := "52ce8c88ec3354f87544485488600c0218dfa5da3db516c252626ef890589906", func := "jacquard/jacquardlaw03.IntsBack", spec := "intsBack", inPlace := ["math/bits.Add64"], named := ["jacquard/ints.widths", "math/bits.deBruijn64tab"], apart := false, laid := [("math/bits.deBruijn64tab", laid_math_bits_deBruijn64tab), ("jacquard/ints.widths", laid_jacquard_ints_widths)], narrowed := true }
def IntsBackUptoSaid : Prop := intsBackUptoRow.holds Tryd.pinned (OpenSpec.upto intsBackSpec)

/-- 'jacquardlaw03.IntsThan', WHERE WHAT IT READS IS OF BULK AT MOST 1048576: true; the input reads as it did. -/
def intsThanUptoRow : OpenClaim := { program := "ytakonchpkchfhaadoor", sum := "52ce8c88ec3354f87544485488600c0218dfa5da3db516c252626ef890589906", func := "jacquard/jacquardlaw03.IntsThan", spec := "intsThan", inPlace := ["math/bits.Add64"], named := ["jacquard/ints.widths", "math/bits.deBruijn64tab"], apart := false, laid := [("math/bits.deBruijn64tab", laid_math_bits_deBruijn64tab), ("jacquard/ints.widths", laid_jacquard_ints_widths)], narrowed := true }
def IntsThanUptoSaid : Prop := intsThanUptoRow.holds Tryd.pinned (OpenSpec.upto intsThanSpec)

/-- 'jacquardlaw03.IntsHeld', WHERE WHAT IT READS IS OF BULK AT MOST 1048576: true; the input reads as it did. -/
def intsHeldUptoRow : OpenClaim := { program := "ytakonchpkchfhaadoor", sum := "52ce8c88ec3354f87544485488600c0218dfa5da3db516c252626ef890589906", func := "jacquard/jacquardlaw03.IntsHeld", spec := "intsHeld", inPlace := ["math/bits.Add64"], named := ["jacquard/ints.widths", "math/bits.deBruijn64tab"], apart := false, laid := [("math/bits.deBruijn64tab", laid_math_bits_deBruijn64tab), ("jacquard/ints.widths", laid_jacquard_ints_widths)], narrowed := true }
def IntsHeldUptoSaid : Prop := intsHeldUptoRow.holds Tryd.pinned (OpenSpec.upto intsHeldSpec)

end Rows
end Go.Proofs.YtakonchpkchfhaaDoor

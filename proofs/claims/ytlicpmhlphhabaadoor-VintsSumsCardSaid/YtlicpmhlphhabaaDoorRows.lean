/-
  NARROWER THAN 'FOR EVERY INPUT', by the rows' own cells (each row's printed sentence says how): VintsTwo: laid · VintsLane: laid · VintsOne: laid · VintsSums: laid · VintsThan: laid · VintsHalves: laid · VintsBack: laid · VintsMasks: laid · VintsDot: laid · VintsTimes: laid.
  DERIVED. THE GIVEN ROWS OF THIS SEAT. 10 by the template 'for every input the law returns true; each argument reads behind the call as it read before'; 0 by the template 'total and deterministic' (their statements: YtlicpmhlphhabaaDoorTotals.lean).
  GIVEN WITH THE SEED: the statements are not yours to turn. If you find one false, say at which input.
  Laid BY PROGRAM, IN A SANDBOX (cutbox-rows.mjs): the forced cells as the released guide's own fill.sh prints them over the translation f066df796ad2c9b7… (all of the seat's roots in one cut). By AI agents, Wed Nov 11 2026. No macro, syntax, notation, axiom, sorry.
-/
import Derived.Test.YtlicpmhlphhabaaDoorChecked
import GoSem.Claim
import GoSem.ClaimJoined
import GoSem.ClaimMapViews
import Derived.JoinedTies
import Derived.KernelRfl
namespace Go.Proofs.YtlicpmhlphhabaaDoor
/- THE CELL 'sum', in the pinned program and in every row, IS THE sha256 OF THE DUMP (.gsa) THAT YtlicpmhlphhabaaDoorProg.lean LOADS. Nothing in Lean hashes anything: it is a label: what it is worth is what the hold of that sum in a sandbox is worth. -/
noncomputable def Tryd.pinned : Pinned := { name := "ytlicpmhlphhabaadoor", sum := "f066df796ad2c9b7d02f79e55162d89070ace510bf26fd4f7f14087ac166f352", checked := Tryd.checked }
namespace Rows
def none {H : Type} : Left H := { results := [], args := [] }

/- WHAT THE LISTED PACKAGE-LEVEL VARIABLES READ AS WHEN THE CALL BEGINS. Each datum BY PROGRAM (the guide's laid-datum.mjs) off the statement by which the dump's own 'gosem.cut.vars' lays the variable. In a bare row this is a premise. The card (YtlicpmhlphhabaaDoorCards.lean) ties it to the program's text. -/
def laid_math_bits_deBruijn64tab {H : Type} : DataW H := .agg [.lit (.int .u8 0), .lit (.int .u8 1), .lit (.int .u8 56), .lit (.int .u8 2), .lit (.int .u8 57), .lit (.int .u8 49), .lit (.int .u8 28), .lit (.int .u8 3), .lit (.int .u8 61), .lit (.int .u8 58), .lit (.int .u8 42), .lit (.int .u8 50), .lit (.int .u8 38), .lit (.int .u8 29), .lit (.int .u8 17), .lit (.int .u8 4), .lit (.int .u8 62), .lit (.int .u8 47), .lit (.int .u8 59), .lit (.int .u8 36), .lit (.int .u8 45), .lit (.int .u8 43), .lit (.int .u8 51), .lit (.int .u8 22), .lit (.int .u8 53), .lit (.int .u8 39), .lit (.int .u8 33), .lit (.int .u8 30), .lit (.int .u8 24), .lit (.int .u8 18), .lit (.int .u8 12), .lit (.int .u8 5), .lit (.int .u8 63), .lit (.int .u8 55), .lit (.int .u8 48), .lit (.int .u8 27), .lit (.int .u8 60), .lit (.int .u8 41), .lit (.int .u8 37), .lit (.int .u8 16), .lit (.int .u8 46), .lit (.int .u8 35), .lit (.int .u8 44), .lit (.int .u8 21), .lit (.int .u8 52), .lit (.int .u8 32), .lit (.int .u8 23), .lit (.int .u8 11), .lit (.int .u8 54), .lit (.int .u8 26), .lit (.int .u8 40), .lit (.int .u8 15), .lit (.int .u8 34), .lit (.int .u8 20), .lit (.int .u8 31), .lit (.int .u8 10), .lit (.int .u8 25), .lit (.int .u8 14), .lit (.int .u8 19), .lit (.int .u8 9), .lit (.int .u8 13), .lit (.int .u8 8), .lit (.int .u8 7), .lit (.int .u8 6)]
def laid_jacquard_ints_widths {H : Type} : DataW H := .agg [.lit (.int .i64 8), .lit (.int .i64 16), .lit (.int .i64 32), .lit (.int .i64 64)]

/-- 'jacquardlaw07.VintsTwo': WHATEVER THE INPUT: true; the input reads as it did. -/
def vintsTwoSpec : ChangeSpec := { name := "vintsTwo", fn := fun _ => fun
  | [d1, d2, d3, d4] => { results := [.lit (.bool true)], args := [d1, d2, d3, d4] }
  | _ => none }
def vintsTwoRow : OpenClaim := { program := "ytlicpmhlphhabaadoor", sum := "f066df796ad2c9b7d02f79e55162d89070ace510bf26fd4f7f14087ac166f352", func := "jacquard/jacquardlaw07.VintsTwo", spec := "vintsTwo", inPlace := ["math/bits.Add64"], unfollowed := true, recurses := true, named := ["jacquard/ints.widths", "math/bits.deBruijn64tab"], apart := false, laid := [("math/bits.deBruijn64tab", laid_math_bits_deBruijn64tab), ("jacquard/ints.widths", laid_jacquard_ints_widths)] }
def VintsTwoSaid : Prop := vintsTwoRow.holds Tryd.pinned (OpenSpec.ofChange vintsTwoSpec)

/-- ITS FALSE NEIGHBOUR: 'it returns false'. Refute it at one input. -/
def vintsTwoWrong : ChangeSpec := { name := "vintsTwo", fn := fun _ => fun
  | [d1, d2, d3, d4] => { results := [.lit (.bool false)], args := [d1, d2, d3, d4] }
  | _ => none }
def VintsTwoWrongFalsely : Prop := vintsTwoRow.holds Tryd.pinned (OpenSpec.ofChange vintsTwoWrong)

/-- 'jacquardlaw07.VintsLane': WHATEVER THE INPUT: true; the input reads as it did. -/
def vintsLaneSpec : ChangeSpec := { name := "vintsLane", fn := fun _ => fun
  | [d1, d2, d3, d4, d5] => { results := [.lit (.bool true)], args := [d1, d2, d3, d4, d5] }
  | _ => none }
def vintsLaneRow : OpenClaim := { program := "ytlicpmhlphhabaadoor", sum := "f066df796ad2c9b7d02f79e55162d89070ace510bf26fd4f7f14087ac166f352", func := "jacquard/jacquardlaw07.VintsLane", spec := "vintsLane", inPlace := ["math/bits.Add64"], unfollowed := true, recurses := true, named := ["jacquard/ints.widths", "math/bits.deBruijn64tab"], apart := false, laid := [("math/bits.deBruijn64tab", laid_math_bits_deBruijn64tab), ("jacquard/ints.widths", laid_jacquard_ints_widths)] }
def VintsLaneSaid : Prop := vintsLaneRow.holds Tryd.pinned (OpenSpec.ofChange vintsLaneSpec)

/-- ITS FALSE NEIGHBOUR: 'it returns false'. Refute it at one input. -/
def vintsLaneWrong : ChangeSpec := { name := "vintsLane", fn := fun _ => fun
  | [d1, d2, d3, d4, d5] => { results := [.lit (.bool false)], args := [d1, d2, d3, d4, d5] }
  | _ => none }
def VintsLaneWrongFalsely : Prop := vintsLaneRow.holds Tryd.pinned (OpenSpec.ofChange vintsLaneWrong)

/-- 'jacquardlaw07.VintsOne': WHATEVER THE INPUT: true; the input reads as it did. -/
def vintsOneSpec : ChangeSpec := { name := "vintsOne", fn := fun _ => fun
  | [d1, d2, d3, d4] => { results := [.lit (.bool true)], args := [d1, d2, d3, d4] }
  | _ => none }
def vintsOneRow : OpenClaim := { program := "ytlicpmhlphhabaadoor", sum := "f066df796ad2c9b7d02f79e55162d89070ace510bf26fd4f7f14087ac166f352", func := "jacquard/jacquardlaw07.VintsOne", spec := "vintsOne", inPlace := ["math/bits.Add64"], unfollowed := true, recurses := true, named := ["jacquard/ints.widths", "math/bits.deBruijn64tab"], apart := false, laid := [("math/bits.deBruijn64tab", laid_math_bits_deBruijn64tab), ("jacquard/ints.widths", laid_jacquard_ints_widths)] }
def VintsOneSaid : Prop := vintsOneRow.holds Tryd.pinned (OpenSpec.ofChange vintsOneSpec)

/-- ITS FALSE NEIGHBOUR: 'it returns false'. Refute it at one input. -/
def vintsOneWrong : ChangeSpec := { name := "vintsOne", fn := fun _ => fun
  | [d1, d2, d3, d4] => { results := [.lit (.bool false)], args := [d1, d2, d3, d4] }
  | _ => none }
def VintsOneWrongFalsely : Prop := vintsOneRow.holds Tryd.pinned (OpenSpec.ofChange vintsOneWrong)

/-- 'jacquardlaw07.VintsSums': WHATEVER THE INPUT: true; the input reads as it did. -/
def vintsSumsSpec : ChangeSpec := { name := "vintsSums", fn := fun _ => fun
  | [d1, d2, d3] => { results := [.lit (.bool true)], args := [d1, d2, d3] }
  | _ => none }
def vintsSumsRow : OpenClaim := { program := "ytlicpmhlphhabaadoor", sum := "f066df796ad2c9b7d02f79e55162d89070ace510bf26fd4f7f14087ac166f352", func := "jacquard/jacquardlaw07.VintsSums", spec := "vintsSums", inPlace := ["math/bits.Add64"], unfollowed := true, recurses := true, named := ["jacquard/ints.widths", "math/bits.deBruijn64tab"], apart := false, laid := [("math/bits.deBruijn64tab", laid_math_bits_deBruijn64tab), ("jacquard/ints.widths", laid_jacquard_ints_widths)] }
def VintsSumsSaid : Prop := vintsSumsRow.holds Tryd.pinned (OpenSpec.ofChange vintsSumsSpec)

/-- ITS FALSE NEIGHBOUR: 'it returns false'. Refute it at one input. -/
def vintsSumsWrong : ChangeSpec := { name := "vintsSums", fn := fun _ => fun
  | [d1, d2, d3] => { results := [.lit (.bool false)], args := [d1, d2, d3] }
  | _ => none }
def VintsSumsWrongFalsely : Prop := vintsSumsRow.holds Tryd.pinned (OpenSpec.ofChange vintsSumsWrong)

/-- 'jacquardlaw07.VintsThan': WHATEVER THE INPUT: true; the input reads as it did. -/
def vintsThanSpec : ChangeSpec := { name := "vintsThan", fn := fun _ => fun
  | [d1, d2, d3, d4] => { results := [.lit (.bool true)], args := [d1, d2, d3, d4] }
  | _ => none }
def vintsThanRow : OpenClaim := { program := "ytlicpmhlphhabaadoor", sum := "f066df796ad2c9b7d02f79e55162d89070ace510bf26fd4f7f14087ac166f352", func := "jacquard/jacquardlaw07.VintsThan", spec := "vintsThan", inPlace := ["math/bits.Add64"], unfollowed := true, recurses := true, named := ["jacquard/ints.widths", "math/bits.deBruijn64tab"], apart := false, laid := [("math/bits.deBruijn64tab", laid_math_bits_deBruijn64tab), ("jacquard/ints.widths", laid_jacquard_ints_widths)] }
def VintsThanSaid : Prop := vintsThanRow.holds Tryd.pinned (OpenSpec.ofChange vintsThanSpec)

/-- ITS FALSE NEIGHBOUR: 'it returns false'. Refute it at one input. -/
def vintsThanWrong : ChangeSpec := { name := "vintsThan", fn := fun _ => fun
  | [d1, d2, d3, d4] => { results := [.lit (.bool false)], args := [d1, d2, d3, d4] }
  | _ => none }
def VintsThanWrongFalsely : Prop := vintsThanRow.holds Tryd.pinned (OpenSpec.ofChange vintsThanWrong)

/-- 'jacquardlaw07.VintsHalves': WHATEVER THE INPUT: true; the input reads as it did. -/
def vintsHalvesSpec : ChangeSpec := { name := "vintsHalves", fn := fun _ => fun
  | [d1, d2, d3, d4, d5] => { results := [.lit (.bool true)], args := [d1, d2, d3, d4, d5] }
  | _ => none }
def vintsHalvesRow : OpenClaim := { program := "ytlicpmhlphhabaadoor", sum := "f066df796ad2c9b7d02f79e55162d89070ace510bf26fd4f7f14087ac166f352", func := "jacquard/jacquardlaw07.VintsHalves", spec := "vintsHalves", inPlace := ["math/bits.Add64"], unfollowed := true, recurses := true, named := ["jacquard/ints.widths", "math/bits.deBruijn64tab"], apart := false, laid := [("math/bits.deBruijn64tab", laid_math_bits_deBruijn64tab), ("jacquard/ints.widths", laid_jacquard_ints_widths)] }
def VintsHalvesSaid : Prop := vintsHalvesRow.holds Tryd.pinned (OpenSpec.ofChange vintsHalvesSpec)

/-- ITS FALSE NEIGHBOUR: 'it returns false'. Refute it at one input. -/
def vintsHalvesWrong : ChangeSpec := { name := "vintsHalves", fn := fun _ => fun
  | [d1, d2, d3, d4, d5] => { results := [.lit (.bool false)], args := [d1, d2, d3, d4, d5] }
  | _ => none }
def VintsHalvesWrongFalsely : Prop := vintsHalvesRow.holds Tryd.pinned (OpenSpec.ofChange vintsHalvesWrong)

/-- 'jacquardlaw07.VintsBack': WHATEVER THE INPUT: true; the input reads as it did. -/
def vintsBackSpec : ChangeSpec := { name := "vintsBack", fn := fun _ => fun
  | [d1, d2] => { results := [.lit (.bool true)], args := [d1, d2] }
  | _ => none }
def vintsBackRow : OpenClaim := { program := "ytlicpmhlphhabaadoor", sum := "f066df796ad2c9b7d02f79e55162d89070ace510bf26fd4f7f14087ac166f352", func := "jacquard/jacquardlaw07.VintsBack", spec := "vintsBack", inPlace := ["math/bits.Add64"], unfollowed := true, recurses := true, named := ["jacquard/ints.widths", "math/bits.deBruijn64tab"], apart := false, laid := [("math/bits.deBruijn64tab", laid_math_bits_deBruijn64tab), ("jacquard/ints.widths", laid_jacquard_ints_widths)] }
def VintsBackSaid : Prop := vintsBackRow.holds Tryd.pinned (OpenSpec.ofChange vintsBackSpec)

/-- ITS FALSE NEIGHBOUR: 'it returns false'. Refute it at one input. -/
def vintsBackWrong : ChangeSpec := { name := "vintsBack", fn := fun _ => fun
  | [d1, d2] => { results := [.lit (.bool false)], args := [d1, d2] }
  | _ => none }
def VintsBackWrongFalsely : Prop := vintsBackRow.holds Tryd.pinned (OpenSpec.ofChange vintsBackWrong)

/-- 'jacquardlaw07.VintsMasks': WHATEVER THE INPUT: true; the input reads as it did. -/
def vintsMasksSpec : ChangeSpec := { name := "vintsMasks", fn := fun _ => fun
  | [d1, d2, d3] => { results := [.lit (.bool true)], args := [d1, d2, d3] }
  | _ => none }
def vintsMasksRow : OpenClaim := { program := "ytlicpmhlphhabaadoor", sum := "f066df796ad2c9b7d02f79e55162d89070ace510bf26fd4f7f14087ac166f352", func := "jacquard/jacquardlaw07.VintsMasks", spec := "vintsMasks", inPlace := ["math/bits.Add64"], unfollowed := true, recurses := true, named := ["jacquard/ints.widths", "math/bits.deBruijn64tab"], apart := false, laid := [("math/bits.deBruijn64tab", laid_math_bits_deBruijn64tab), ("jacquard/ints.widths", laid_jacquard_ints_widths)] }
def VintsMasksSaid : Prop := vintsMasksRow.holds Tryd.pinned (OpenSpec.ofChange vintsMasksSpec)

/-- ITS FALSE NEIGHBOUR: 'it returns false'. Refute it at one input. -/
def vintsMasksWrong : ChangeSpec := { name := "vintsMasks", fn := fun _ => fun
  | [d1, d2, d3] => { results := [.lit (.bool false)], args := [d1, d2, d3] }
  | _ => none }
def VintsMasksWrongFalsely : Prop := vintsMasksRow.holds Tryd.pinned (OpenSpec.ofChange vintsMasksWrong)

/-- 'jacquardlaw07.VintsDot': WHATEVER THE INPUT: true; the input reads as it did. -/
def vintsDotSpec : ChangeSpec := { name := "vintsDot", fn := fun _ => fun
  | [d1, d2] => { results := [.lit (.bool true)], args := [d1, d2] }
  | _ => none }
def vintsDotRow : OpenClaim := { program := "ytlicpmhlphhabaadoor", sum := "f066df796ad2c9b7d02f79e55162d89070ace510bf26fd4f7f14087ac166f352", func := "jacquard/jacquardlaw07.VintsDot", spec := "vintsDot", inPlace := ["math/bits.Add64"], unfollowed := true, recurses := true, named := ["jacquard/ints.widths", "math/bits.deBruijn64tab"], apart := false, laid := [("math/bits.deBruijn64tab", laid_math_bits_deBruijn64tab), ("jacquard/ints.widths", laid_jacquard_ints_widths)] }
def VintsDotSaid : Prop := vintsDotRow.holds Tryd.pinned (OpenSpec.ofChange vintsDotSpec)

/-- ITS FALSE NEIGHBOUR: 'it returns false'. Refute it at one input. -/
def vintsDotWrong : ChangeSpec := { name := "vintsDot", fn := fun _ => fun
  | [d1, d2] => { results := [.lit (.bool false)], args := [d1, d2] }
  | _ => none }
def VintsDotWrongFalsely : Prop := vintsDotRow.holds Tryd.pinned (OpenSpec.ofChange vintsDotWrong)

/-- 'jacquardlaw07.VintsTimes': WHATEVER THE INPUT: true; the input reads as it did. -/
def vintsTimesSpec : ChangeSpec := { name := "vintsTimes", fn := fun _ => fun
  | [d1, d2, d3, d4, d5] => { results := [.lit (.bool true)], args := [d1, d2, d3, d4, d5] }
  | _ => none }
def vintsTimesRow : OpenClaim := { program := "ytlicpmhlphhabaadoor", sum := "f066df796ad2c9b7d02f79e55162d89070ace510bf26fd4f7f14087ac166f352", func := "jacquard/jacquardlaw07.VintsTimes", spec := "vintsTimes", inPlace := ["math/bits.Add64"], unfollowed := true, recurses := true, named := ["jacquard/ints.widths", "math/bits.deBruijn64tab"], apart := false, laid := [("math/bits.deBruijn64tab", laid_math_bits_deBruijn64tab), ("jacquard/ints.widths", laid_jacquard_ints_widths)] }
def VintsTimesSaid : Prop := vintsTimesRow.holds Tryd.pinned (OpenSpec.ofChange vintsTimesSpec)

/-- ITS FALSE NEIGHBOUR: 'it returns false'. Refute it at one input. -/
def vintsTimesWrong : ChangeSpec := { name := "vintsTimes", fn := fun _ => fun
  | [d1, d2, d3, d4, d5] => { results := [.lit (.bool false)], args := [d1, d2, d3, d4, d5] }
  | _ => none }
def VintsTimesWrongFalsely : Prop := vintsTimesRow.holds Tryd.pinned (OpenSpec.ofChange vintsTimesWrong)

/- THE SECOND FORM. 'bulk': how many values and letters a reading holds, each counted each time it is reached (what is shared counts as often as it is met; a slice's spare places count too). A statement '..UptoSaid' is the law's where the arguments, and the package variables that the reading takes, are together of bulk at most 1048576: NARROWER than '..Said'. Prove '..Said' where nothing that the law and all that it calls make is longer than what came in: it says more and counts as full. Else prove '..UptoSaid'. A law counts once. -/
mutual
def uptoBulk {H : Type} : DataW H → Nat
  | .lit (.string bytes) => bytes.length + 1
  | .lit _ => 1
  | .nil => 1
  | .ptr d => uptoBulk d + 1
  | .slice elems spare => uptoBulkAll elems + uptoBulkAll spare + 1
  | .agg parts => uptoBulkAll parts + 1
  | .iface _ d => uptoBulk d + 1
  | .map entries => uptoBulkEntries entries + 1
  | .held _ => 1
def uptoBulkAll {H : Type} : List (DataW H) → Nat
  | [] => 0
  | d :: r => uptoBulk d + uptoBulkAll r
def uptoBulkEntries {H : Type} : List (Lit × DataW H) → Nat
  | [] => 0
  | x :: r => uptoBulkEntry x + uptoBulkEntries r
def uptoBulkEntry {H : Type} : Lit × DataW H → Nat
  | (.string bytes, d) => bytes.length + uptoBulk d + 1
  | (_, d) => uptoBulk d + 1
 end
def uptoSmall : (H : Type) → List (DataW H) → Bool := fun _ ds => decide (uptoBulkAll ds ≤ 1048576)
def OpenSpec.upto (s : _root_.Go.ChangeSpec) : _root_.Go.OpenSpec := { _root_.Go.OpenSpec.ofChange s with cond := some uptoSmall }

/-- 'jacquardlaw07.VintsTwo', WHERE WHAT IT READS IS OF BULK AT MOST 1048576: true; the input reads as it did. -/
def vintsTwoUptoRow : OpenClaim := { program := "ytlicpmhlphhabaadoor", sum := "f066df796ad2c9b7d02f79e55162d89070ace510bf26fd4f7f14087ac166f352", func := "jacquard/jacquardlaw07.VintsTwo", spec := "vintsTwo", inPlace := ["math/bits.Add64"], unfollowed := true, recurses := true, named := ["jacquard/ints.widths", "math/bits.deBruijn64tab"], apart := false, laid := [("math/bits.deBruijn64tab", laid_math_bits_deBruijn64tab), ("jacquard/ints.widths", laid_jacquard_ints_widths)], narrowed := true }
def VintsTwoUptoSaid : Prop := vintsTwoUptoRow.holds Tryd.pinned (OpenSpec.upto vintsTwoSpec)

/-- 'jacquardlaw07.VintsLane', WHERE WHAT IT READS IS OF BULK AT MOST 1048576: true; the input reads as it did. -/
def vintsLaneUptoRow : OpenClaim := { program := "ytlicpmhlphhabaadoor", sum := "f066df796ad2c9b7d02f79e55162d89070ace510bf26fd4f7f14087ac166f352", func := "jacquard/jacquardlaw07.VintsLane", spec := "vintsLane", inPlace := ["math/bits.Add64"], unfollowed := true, recurses := true, named := ["jacquard/ints.widths", "math/bits.deBruijn64tab"], apart := false, laid := [("math/bits.deBruijn64tab", laid_math_bits_deBruijn64tab), ("jacquard/ints.widths", laid_jacquard_ints_widths)], narrowed := true }
def VintsLaneUptoSaid : Prop := vintsLaneUptoRow.holds Tryd.pinned (OpenSpec.upto vintsLaneSpec)

/-- 'jacquardlaw07.VintsOne', WHERE WHAT IT READS IS OF BULK AT MOST 1048576: true; the input reads as it did. -/
def vintsOneUptoRow : OpenClaim := { program := "ytlicpmhlphhabaadoor", sum := "f066df796ad2c9b7d02f79e55162d89070ace510bf26fd4f7f14087ac166f352", func := "jacquard/jacquardlaw07.VintsOne", spec := "vintsOne", inPlace := ["math/bits.Add64"], unfollowed := true, recurses := true, named := ["jacquard/ints.widths", "math/bits.deBruijn64tab"], apart := false, laid := [("math/bits.deBruijn64tab", laid_math_bits_deBruijn64tab), ("jacquard/ints.widths", laid_jacquard_ints_widths)], narrowed := true }
def VintsOneUptoSaid : Prop := vintsOneUptoRow.holds Tryd.pinned (OpenSpec.upto vintsOneSpec)

/-- 'jacquardlaw07.VintsSums', WHERE WHAT IT READS IS OF BULK AT MOST 1048576: true; the input reads as it did. -/
def vintsSumsUptoRow : OpenClaim := { program := "ytlicpmhlphhabaadoor", sum := "f066df796ad2c9b7d02f79e55162d89070ace510bf26fd4f7f14087ac166f352", func := "jacquard/jacquardlaw07.VintsSums", spec := "vintsSums", inPlace := ["math/bits.Add64"], unfollowed := true, recurses := true, named := ["jacquard/ints.widths", "math/bits.deBruijn64tab"], apart := false, laid := [("math/bits.deBruijn64tab", laid_math_bits_deBruijn64tab), ("jacquard/ints.widths", laid_jacquard_ints_widths)], narrowed := true }
def VintsSumsUptoSaid : Prop := vintsSumsUptoRow.holds Tryd.pinned (OpenSpec.upto vintsSumsSpec)

/-- 'jacquardlaw07.VintsThan', WHERE WHAT IT READS IS OF BULK AT MOST 1048576: true; the input reads as it did. -/
def vintsThanUptoRow : OpenClaim := { program := "ytlicpmhlphhabaadoor", sum := "f066df796ad2c9b7d02f79e55162d89070ace510bf26fd4f7f14087ac166f352", func := "jacquard/jacquardlaw07.VintsThan", spec := "vintsThan", inPlace := ["math/bits.Add64"], unfollowed := true, recurses := true, named := ["jacquard/ints.widths", "math/bits.deBruijn64tab"], apart := false, laid := [("math/bits.deBruijn64tab", laid_math_bits_deBruijn64tab), ("jacquard/ints.widths", laid_jacquard_ints_widths)], narrowed := true }
def VintsThanUptoSaid : Prop := vintsThanUptoRow.holds Tryd.pinned (OpenSpec.upto vintsThanSpec)

/-- 'jacquardlaw07.VintsHalves', WHERE WHAT IT READS IS OF BULK AT MOST 1048576: true; the input reads as it did. -/
def vintsHalvesUptoRow : OpenClaim := { program := "ytlicpmhlphhabaadoor", sum := "f066df796ad2c9b7d02f79e55162d89070ace510bf26fd4f7f14087ac166f352", func := "jacquard/jacquardlaw07.VintsHalves", spec := "vintsHalves", inPlace := ["math/bits.Add64"], unfollowed := true, recurses := true, named := ["jacquard/ints.widths", "math/bits.deBruijn64tab"], apart := false, laid := [("math/bits.deBruijn64tab", laid_math_bits_deBruijn64tab), ("jacquard/ints.widths", laid_jacquard_ints_widths)], narrowed := true }
def VintsHalvesUptoSaid : Prop := vintsHalvesUptoRow.holds Tryd.pinned (OpenSpec.upto vintsHalvesSpec)

/-- 'jacquardlaw07.VintsBack', WHERE WHAT IT READS IS OF BULK AT MOST 1048576: true; the input reads as it did. -/
def vintsBackUptoRow : OpenClaim := { program := "ytlicpmhlphhabaadoor", sum := "f066df796ad2c9b7d02f79e55162d89070ace510bf26fd4f7f14087ac166f352", func := "jacquard/jacquardlaw07.VintsBack", spec := "vintsBack", inPlace := ["math/bits.Add64"], unfollowed := true, recurses := true, named := ["jacquard/ints.widths", "math/bits.deBruijn64tab"], apart := false, laid := [("math/bits.deBruijn64tab", laid_math_bits_deBruijn64tab), ("jacquard/ints.widths", laid_jacquard_ints_widths)], narrowed := true }
def VintsBackUptoSaid : Prop := vintsBackUptoRow.holds Tryd.pinned (OpenSpec.upto vintsBackSpec)

/-- 'jacquardlaw07.VintsMasks', WHERE WHAT IT READS IS OF BULK AT MOST 1048576: true; the input reads as it did. -/
def vintsMasksUptoRow : OpenClaim := { program := "ytlicpmhlphhabaadoor", sum := "f066df796ad2c9b7d02f79e55162d89070ace510bf26fd4f7f14087ac166f352", func := "jacquard/jacquardlaw07.VintsMasks", spec := "vintsMasks", inPlace := ["math/bits.Add64"], unfollowed := true, recurses := true, named := ["jacquard/ints.widths", "math/bits.deBruijn64tab"], apart := false, laid := [("math/bits.deBruijn64tab", laid_math_bits_deBruijn64tab), ("jacquard/ints.widths", laid_jacquard_ints_widths)], narrowed := true }
def VintsMasksUptoSaid : Prop := vintsMasksUptoRow.holds Tryd.pinned (OpenSpec.upto vintsMasksSpec)

/-- 'jacquardlaw07.VintsDot', WHERE WHAT IT READS IS OF BULK AT MOST 1048576: true; the input reads as it did. -/
def vintsDotUptoRow : OpenClaim := { program := "ytlicpmhlphhabaadoor", sum := "f066df796ad2c9b7d02f79e55162d89070ace510bf26fd4f7f14087ac166f352", func := "jacquard/jacquardlaw07.VintsDot", spec := "vintsDot", inPlace := ["math/bits.Add64"], unfollowed := true, recurses := true, named := ["jacquard/ints.widths", "math/bits.deBruijn64tab"], apart := false, laid := [("math/bits.deBruijn64tab", laid_math_bits_deBruijn64tab), ("jacquard/ints.widths", laid_jacquard_ints_widths)], narrowed := true }
def VintsDotUptoSaid : Prop := vintsDotUptoRow.holds Tryd.pinned (OpenSpec.upto vintsDotSpec)

/-- 'jacquardlaw07.VintsTimes', WHERE WHAT IT READS IS OF BULK AT MOST 1048576: true; the input reads as it did. -/
def vintsTimesUptoRow : OpenClaim := { program := "ytlicpmhlphhabaadoor", sum := "f066df796ad2c9b7d02f79e55162d89070ace510bf26fd4f7f14087ac166f352", func := "jacquard/jacquardlaw07.VintsTimes", spec := "vintsTimes", inPlace := ["math/bits.Add64"], unfollowed := true, recurses := true, named := ["jacquard/ints.widths", "math/bits.deBruijn64tab"], apart := false, laid := [("math/bits.deBruijn64tab", laid_math_bits_deBruijn64tab), ("jacquard/ints.widths", laid_jacquard_ints_widths)], narrowed := true }
def VintsTimesUptoSaid : Prop := vintsTimesUptoRow.holds Tryd.pinned (OpenSpec.upto vintsTimesSpec)

end Rows
end Go.Proofs.YtlicpmhlphhabaaDoor

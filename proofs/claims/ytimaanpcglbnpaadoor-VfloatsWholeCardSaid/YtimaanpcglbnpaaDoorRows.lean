/-
  NARROWER THAN 'FOR EVERY INPUT', by the rows' own cells (each row's printed sentence says how): VfloatsTwo: laid · VfloatsThan: laid · VfloatsWidths: laid · VfloatsConvs: laid · VfloatsWhole: laid · VfloatsOne: laid.
  DERIVED. THE GIVEN ROWS OF THIS SEAT. 6 by the template 'for every input the law returns true; each argument reads behind the call as it read before'; 0 by the template 'total and deterministic' (their statements: YtimaanpcglbnpaaDoorTotals.lean).
  GIVEN WITH THE SEED: the statements are not yours to turn. If you find one false, say at which input.
  Laid BY PROGRAM, IN A SANDBOX (cutbox-rows.mjs): the forced cells as the released guide's own fill.sh prints them over the translation 923f410aa0f43897… (all of the seat's roots in one cut). By AI agents, Wed Nov 11 2026. No macro, syntax, notation, axiom, sorry.
-/
import Derived.Test.YtimaanpcglbnpaaDoorChecked
import GoSem.Claim
import GoSem.ClaimJoined
import GoSem.ClaimMapViews
import Derived.JoinedTies
import Derived.KernelRfl
namespace Go.Proofs.YtimaanpcglbnpaaDoor
/- THE CELL 'sum', in the pinned program and in every row, IS THE sha256 OF THE DUMP (.gsa) THAT YtimaanpcglbnpaaDoorProg.lean LOADS. Nothing in Lean hashes anything: it is a label: what it is worth is what the hold of that sum in a sandbox is worth. -/
noncomputable def Tryd.pinned : Pinned := { name := "ytimaanpcglbnpaadoor", sum := "923f410aa0f43897a24cf64d654a8be5e7453430b852080a0d1c5b6913e772b6", checked := Tryd.checked }
namespace Rows
def none {H : Type} : Left H := { results := [], args := [] }

/- WHAT THE LISTED PACKAGE-LEVEL VARIABLES READ AS WHEN THE CALL BEGINS. Each datum BY PROGRAM (the guide's laid-datum.mjs) off the statement by which the dump's own 'gosem.cut.vars' lays the variable. In a bare row this is a premise. The card (YtimaanpcglbnpaaDoorCards.lean) ties it to the program's text. -/
def laid_math_bits_deBruijn64tab {H : Type} : DataW H := .agg [.lit (.int .u8 0), .lit (.int .u8 1), .lit (.int .u8 56), .lit (.int .u8 2), .lit (.int .u8 57), .lit (.int .u8 49), .lit (.int .u8 28), .lit (.int .u8 3), .lit (.int .u8 61), .lit (.int .u8 58), .lit (.int .u8 42), .lit (.int .u8 50), .lit (.int .u8 38), .lit (.int .u8 29), .lit (.int .u8 17), .lit (.int .u8 4), .lit (.int .u8 62), .lit (.int .u8 47), .lit (.int .u8 59), .lit (.int .u8 36), .lit (.int .u8 45), .lit (.int .u8 43), .lit (.int .u8 51), .lit (.int .u8 22), .lit (.int .u8 53), .lit (.int .u8 39), .lit (.int .u8 33), .lit (.int .u8 30), .lit (.int .u8 24), .lit (.int .u8 18), .lit (.int .u8 12), .lit (.int .u8 5), .lit (.int .u8 63), .lit (.int .u8 55), .lit (.int .u8 48), .lit (.int .u8 27), .lit (.int .u8 60), .lit (.int .u8 41), .lit (.int .u8 37), .lit (.int .u8 16), .lit (.int .u8 46), .lit (.int .u8 35), .lit (.int .u8 44), .lit (.int .u8 21), .lit (.int .u8 52), .lit (.int .u8 32), .lit (.int .u8 23), .lit (.int .u8 11), .lit (.int .u8 54), .lit (.int .u8 26), .lit (.int .u8 40), .lit (.int .u8 15), .lit (.int .u8 34), .lit (.int .u8 20), .lit (.int .u8 31), .lit (.int .u8 10), .lit (.int .u8 25), .lit (.int .u8 14), .lit (.int .u8 19), .lit (.int .u8 9), .lit (.int .u8 13), .lit (.int .u8 8), .lit (.int .u8 7), .lit (.int .u8 6)]
def laid_jacquard_ints_widths {H : Type} : DataW H := .agg [.lit (.int .i64 8), .lit (.int .i64 16), .lit (.int .i64 32), .lit (.int .i64 64)]

/-- 'jacquardlaw08.VfloatsTwo': WHATEVER THE INPUT: true; the input reads as it did. -/
def vfloatsTwoSpec : ChangeSpec := { name := "vfloatsTwo", fn := fun _ => fun
  | [d1, d2, d3, d4] => { results := [.lit (.bool true)], args := [d1, d2, d3, d4] }
  | _ => none }
def vfloatsTwoRow : OpenClaim := { program := "ytimaanpcglbnpaadoor", sum := "923f410aa0f43897a24cf64d654a8be5e7453430b852080a0d1c5b6913e772b6", func := "jacquard/jacquardlaw08.VfloatsTwo", spec := "vfloatsTwo", inPlace := ["math.Float32frombits", "math.Float64frombits", "math.Float32bits", "math.Float64bits", "math.archMin", "math.archMax"], unfollowed := true, recurses := true, named := ["jacquard/ints.widths", "math/bits.deBruijn64tab"], apart := false, laid := [("math/bits.deBruijn64tab", laid_math_bits_deBruijn64tab), ("jacquard/ints.widths", laid_jacquard_ints_widths)] }
def VfloatsTwoSaid : Prop := vfloatsTwoRow.holds Tryd.pinned (OpenSpec.ofChange vfloatsTwoSpec)

/-- ITS FALSE NEIGHBOUR: 'it returns false'. Refute it at one input. -/
def vfloatsTwoWrong : ChangeSpec := { name := "vfloatsTwo", fn := fun _ => fun
  | [d1, d2, d3, d4] => { results := [.lit (.bool false)], args := [d1, d2, d3, d4] }
  | _ => none }
def VfloatsTwoWrongFalsely : Prop := vfloatsTwoRow.holds Tryd.pinned (OpenSpec.ofChange vfloatsTwoWrong)

/-- 'jacquardlaw08.VfloatsThan': WHATEVER THE INPUT: true; the input reads as it did. -/
def vfloatsThanSpec : ChangeSpec := { name := "vfloatsThan", fn := fun _ => fun
  | [d1, d2, d3, d4] => { results := [.lit (.bool true)], args := [d1, d2, d3, d4] }
  | _ => none }
def vfloatsThanRow : OpenClaim := { program := "ytimaanpcglbnpaadoor", sum := "923f410aa0f43897a24cf64d654a8be5e7453430b852080a0d1c5b6913e772b6", func := "jacquard/jacquardlaw08.VfloatsThan", spec := "vfloatsThan", inPlace := ["math.Float32frombits", "math.Float64frombits", "math.Float32bits", "math.Float64bits", "math.archMin", "math.archMax"], unfollowed := true, recurses := true, named := ["jacquard/ints.widths", "math/bits.deBruijn64tab"], apart := false, laid := [("math/bits.deBruijn64tab", laid_math_bits_deBruijn64tab), ("jacquard/ints.widths", laid_jacquard_ints_widths)] }
def VfloatsThanSaid : Prop := vfloatsThanRow.holds Tryd.pinned (OpenSpec.ofChange vfloatsThanSpec)

/-- ITS FALSE NEIGHBOUR: 'it returns false'. Refute it at one input. -/
def vfloatsThanWrong : ChangeSpec := { name := "vfloatsThan", fn := fun _ => fun
  | [d1, d2, d3, d4] => { results := [.lit (.bool false)], args := [d1, d2, d3, d4] }
  | _ => none }
def VfloatsThanWrongFalsely : Prop := vfloatsThanRow.holds Tryd.pinned (OpenSpec.ofChange vfloatsThanWrong)

/-- 'jacquardlaw08.VfloatsWidths': WHATEVER THE INPUT: true; the input reads as it did. -/
def vfloatsWidthsSpec : ChangeSpec := { name := "vfloatsWidths", fn := fun _ => fun
  | [d] => { results := [.lit (.bool true)], args := [d] }
  | _ => none }
def vfloatsWidthsRow : OpenClaim := { program := "ytimaanpcglbnpaadoor", sum := "923f410aa0f43897a24cf64d654a8be5e7453430b852080a0d1c5b6913e772b6", func := "jacquard/jacquardlaw08.VfloatsWidths", spec := "vfloatsWidths", inPlace := ["math.Float32frombits", "math.Float64frombits", "math.Float64bits", "math.Float32bits", "math.archMin", "math.archMax"], unfollowed := true, recurses := true, named := ["jacquard/ints.widths", "math/bits.deBruijn64tab"], apart := false, laid := [("math/bits.deBruijn64tab", laid_math_bits_deBruijn64tab), ("jacquard/ints.widths", laid_jacquard_ints_widths)] }
def VfloatsWidthsSaid : Prop := vfloatsWidthsRow.holds Tryd.pinned (OpenSpec.ofChange vfloatsWidthsSpec)

/-- ITS FALSE NEIGHBOUR: 'it returns false'. Refute it at one input. -/
def vfloatsWidthsWrong : ChangeSpec := { name := "vfloatsWidths", fn := fun _ => fun
  | [d] => { results := [.lit (.bool false)], args := [d] }
  | _ => none }
def VfloatsWidthsWrongFalsely : Prop := vfloatsWidthsRow.holds Tryd.pinned (OpenSpec.ofChange vfloatsWidthsWrong)

/-- 'jacquardlaw08.VfloatsConvs': WHATEVER THE INPUT: true; the input reads as it did. -/
def vfloatsConvsSpec : ChangeSpec := { name := "vfloatsConvs", fn := fun _ => fun
  | [d1, d2, d3] => { results := [.lit (.bool true)], args := [d1, d2, d3] }
  | _ => none }
def vfloatsConvsRow : OpenClaim := { program := "ytimaanpcglbnpaadoor", sum := "923f410aa0f43897a24cf64d654a8be5e7453430b852080a0d1c5b6913e772b6", func := "jacquard/jacquardlaw08.VfloatsConvs", spec := "vfloatsConvs", inPlace := ["math.Float32frombits", "math.Float64frombits", "math.Float64bits", "math.Float32bits", "math.archMin", "math.archMax"], unfollowed := true, recurses := true, named := ["jacquard/ints.widths", "math/bits.deBruijn64tab"], apart := false, laid := [("math/bits.deBruijn64tab", laid_math_bits_deBruijn64tab), ("jacquard/ints.widths", laid_jacquard_ints_widths)] }
def VfloatsConvsSaid : Prop := vfloatsConvsRow.holds Tryd.pinned (OpenSpec.ofChange vfloatsConvsSpec)

/-- ITS FALSE NEIGHBOUR: 'it returns false'. Refute it at one input. -/
def vfloatsConvsWrong : ChangeSpec := { name := "vfloatsConvs", fn := fun _ => fun
  | [d1, d2, d3] => { results := [.lit (.bool false)], args := [d1, d2, d3] }
  | _ => none }
def VfloatsConvsWrongFalsely : Prop := vfloatsConvsRow.holds Tryd.pinned (OpenSpec.ofChange vfloatsConvsWrong)

/-- 'jacquardlaw08.VfloatsWhole': WHATEVER THE INPUT: true; the input reads as it did. -/
def vfloatsWholeSpec : ChangeSpec := { name := "vfloatsWhole", fn := fun _ => fun
  | [d1, d2] => { results := [.lit (.bool true)], args := [d1, d2] }
  | _ => none }
def vfloatsWholeRow : OpenClaim := { program := "ytimaanpcglbnpaadoor", sum := "923f410aa0f43897a24cf64d654a8be5e7453430b852080a0d1c5b6913e772b6", func := "jacquard/jacquardlaw08.VfloatsWhole", spec := "vfloatsWhole", inPlace := ["math.Float32bits", "math.Float64bits", "math.Float32frombits", "math.Float64frombits", "math.archMin", "math.archMax"], unfollowed := true, recurses := true, named := ["jacquard/ints.widths", "math/bits.deBruijn64tab"], apart := false, laid := [("math/bits.deBruijn64tab", laid_math_bits_deBruijn64tab), ("jacquard/ints.widths", laid_jacquard_ints_widths)] }
def VfloatsWholeSaid : Prop := vfloatsWholeRow.holds Tryd.pinned (OpenSpec.ofChange vfloatsWholeSpec)

/-- ITS FALSE NEIGHBOUR: 'it returns false'. Refute it at one input. -/
def vfloatsWholeWrong : ChangeSpec := { name := "vfloatsWhole", fn := fun _ => fun
  | [d1, d2] => { results := [.lit (.bool false)], args := [d1, d2] }
  | _ => none }
def VfloatsWholeWrongFalsely : Prop := vfloatsWholeRow.holds Tryd.pinned (OpenSpec.ofChange vfloatsWholeWrong)

/-- 'jacquardlaw08.VfloatsOne': WHATEVER THE INPUT: true; the input reads as it did. -/
def vfloatsOneSpec : ChangeSpec := { name := "vfloatsOne", fn := fun _ => fun
  | [d1, d2, d3] => { results := [.lit (.bool true)], args := [d1, d2, d3] }
  | _ => none }
def vfloatsOneRow : OpenClaim := { program := "ytimaanpcglbnpaadoor", sum := "923f410aa0f43897a24cf64d654a8be5e7453430b852080a0d1c5b6913e772b6", func := "jacquard/jacquardlaw08.VfloatsOne", spec := "vfloatsOne", inPlace := ["math.Float32frombits", "math.Float64frombits", "math.sqrt", "math.Float32bits", "math.Float64bits", "math.archCeil", "math.archFloor", "math.archTrunc", "math.RoundToEven", "math.archMin", "math.archMax"], unfollowed := true, recurses := true, named := ["jacquard/ints.widths", "math/bits.deBruijn64tab"], apart := false, laid := [("math/bits.deBruijn64tab", laid_math_bits_deBruijn64tab), ("jacquard/ints.widths", laid_jacquard_ints_widths)] }
def VfloatsOneSaid : Prop := vfloatsOneRow.holds Tryd.pinned (OpenSpec.ofChange vfloatsOneSpec)

/-- ITS FALSE NEIGHBOUR: 'it returns false'. Refute it at one input. -/
def vfloatsOneWrong : ChangeSpec := { name := "vfloatsOne", fn := fun _ => fun
  | [d1, d2, d3] => { results := [.lit (.bool false)], args := [d1, d2, d3] }
  | _ => none }
def VfloatsOneWrongFalsely : Prop := vfloatsOneRow.holds Tryd.pinned (OpenSpec.ofChange vfloatsOneWrong)

/- THE SECOND FORM. 'bulk': how many values and letters a reading holds, each counted each time it is reached (what is shared counts as often as it is met; a slice's spare places count too). A statement '..UptoSaid' is the law's where the arguments, and the package variables that the reading takes, are together of bulk at most 1048576: NARROWER than '..Said'. Prove '..Said' where nothing that the law and all that it calls make is longer than what came in: it says more and counts as full. Else prove '..UptoSaid'. A law counts once. -/
mutual
def uptoBulk {H : Type} : DataW H → Nat
  | .lit (.string bytes) => bytes.length + 1
  | .lit _ => 1
  | .nil => 1
  | .ptr d => uptoBulk d + 1
  | .slice elems spare => uptoBulkAll elems + uptoBulkAll spare + 1
  | .agg parts => uptoBulkAll parts + 1
  | .iface _ d => uptoBulk d + 1
  | .map entries => uptoBulkEntries entries + 1
  | .held _ => 1
def uptoBulkAll {H : Type} : List (DataW H) → Nat
  | [] => 0
  | d :: r => uptoBulk d + uptoBulkAll r
def uptoBulkEntries {H : Type} : List (Lit × DataW H) → Nat
  | [] => 0
  | x :: r => uptoBulkEntry x + uptoBulkEntries r
def uptoBulkEntry {H : Type} : Lit × DataW H → Nat
  | (.string bytes, d) => bytes.length + uptoBulk d + 1
  | (_, d) => uptoBulk d + 1
 end
def uptoSmall : (H : Type) → List (DataW H) → Bool := fun _ ds => decide (uptoBulkAll ds ≤ 1048576)
def OpenSpec.upto (s : _root_.Go.ChangeSpec) : _root_.Go.OpenSpec := { _root_.Go.OpenSpec.ofChange s with cond := some uptoSmall }

/-- 'jacquardlaw08.VfloatsTwo', WHERE WHAT IT READS IS OF BULK AT MOST 1048576: true; the input reads as it did. -/
def vfloatsTwoUptoRow : OpenClaim := { program := "ytimaanpcglbnpaadoor", sum := "923f410aa0f43897a24cf64d654a8be5e7453430b852080a0d1c5b6913e772b6", func := "jacquard/jacquardlaw08.VfloatsTwo", spec := "vfloatsTwo", inPlace := ["math.Float32frombits", "math.Float64frombits", "math.Float32bits", "math.Float64bits", "math.archMin", "math.archMax"], unfollowed := true, recurses := true, named := ["jacquard/ints.widths", "math/bits.deBruijn64tab"], apart := false, laid := [("math/bits.deBruijn64tab", laid_math_bits_deBruijn64tab), ("jacquard/ints.widths", laid_jacquard_ints_widths)], narrowed := true }
def VfloatsTwoUptoSaid : Prop := vfloatsTwoUptoRow.holds Tryd.pinned (OpenSpec.upto vfloatsTwoSpec)

/-- 'jacquardlaw08.VfloatsThan', WHERE WHAT IT READS IS OF BULK AT MOST 1048576: true; the input reads as it did. -/
def vfloatsThanUptoRow : OpenClaim := { program := "ytimaanpcglbnpaadoor", sum := "923f410aa0f43897a24cf64d654a8be5e7453430b852080a0d1c5b6913e772b6", func := "jacquard/jacquardlaw08.VfloatsThan", spec := "vfloatsThan", inPlace := ["math.Float32frombits", "math.Float64frombits", "math.Float32bits", "math.Float64bits", "math.archMin", "math.archMax"], unfollowed := true, recurses := true, named := ["jacquard/ints.widths", "math/bits.deBruijn64tab"], apart := false, laid := [("math/bits.deBruijn64tab", laid_math_bits_deBruijn64tab), ("jacquard/ints.widths", laid_jacquard_ints_widths)], narrowed := true }
def VfloatsThanUptoSaid : Prop := vfloatsThanUptoRow.holds Tryd.pinned (OpenSpec.upto vfloatsThanSpec)

/-- 'jacquardlaw08.VfloatsWidths', WHERE WHAT IT READS IS OF BULK AT MOST 1048576: true; the input reads as it did. -/
def vfloatsWidthsUptoRow : OpenClaim := { program := "ytimaanpcglbnpaadoor", sum := "923f410aa0f43897a24cf64d654a8be5e7453430b852080a0d1c5b6913e772b6", func := "jacquard/jacquardlaw08.VfloatsWidths", spec := "vfloatsWidths", inPlace := ["math.Float32frombits", "math.Float64frombits", "math.Float64bits", "math.Float32bits", "math.archMin", "math.archMax"], unfollowed := true, recurses := true, named := ["jacquard/ints.widths", "math/bits.deBruijn64tab"], apart := false, laid := [("math/bits.deBruijn64tab", laid_math_bits_deBruijn64tab), ("jacquard/ints.widths", laid_jacquard_ints_widths)], narrowed := true }
def VfloatsWidthsUptoSaid : Prop := vfloatsWidthsUptoRow.holds Tryd.pinned (OpenSpec.upto vfloatsWidthsSpec)

/-- 'jacquardlaw08.VfloatsConvs', WHERE WHAT IT READS IS OF BULK AT MOST 1048576: true; the input reads as it did. -/
def vfloatsConvsUptoRow : OpenClaim := { program := "ytimaanpcglbnpaadoor", sum := "923f410aa0f43897a24cf64d654a8be5e7453430b852080a0d1c5b6913e772b6", func := "jacquard/jacquardlaw08.VfloatsConvs", spec := "vfloatsConvs", inPlace := ["math.Float32frombits", "math.Float64frombits", "math.Float64bits", "math.Float32bits", "math.archMin", "math.archMax"], unfollowed := true, recurses := true, named := ["jacquard/ints.widths", "math/bits.deBruijn64tab"], apart := false, laid := [("math/bits.deBruijn64tab", laid_math_bits_deBruijn64tab), ("jacquard/ints.widths", laid_jacquard_ints_widths)], narrowed := true }
def VfloatsConvsUptoSaid : Prop := vfloatsConvsUptoRow.holds Tryd.pinned (OpenSpec.upto vfloatsConvsSpec)

/-- 'jacquardlaw08.VfloatsWhole', WHERE WHAT IT READS IS OF BULK AT MOST 1048576: true; the input reads as it did. -/
def vfloatsWholeUptoRow : OpenClaim := { program := "ytimaanpcglbnpaadoor", sum := "923f410aa0f43897a24cf64d654a8be5e7453430b852080a0d1c5b6913e772b6", func := "jacquard/jacquardlaw08.VfloatsWhole", spec := "vfloatsWhole", inPlace := ["math.Float32bits", "math.Float64bits", "math.Float32frombits", "math.Float64frombits", "math.archMin", "math.archMax"], unfollowed := true, recurses := true, named := ["jacquard/ints.widths", "math/bits.deBruijn64tab"], apart := false, laid := [("math/bits.deBruijn64tab", laid_math_bits_deBruijn64tab), ("jacquard/ints.widths", laid_jacquard_ints_widths)], narrowed := true }
def VfloatsWholeUptoSaid : Prop := vfloatsWholeUptoRow.holds Tryd.pinned (OpenSpec.upto vfloatsWholeSpec)

/-- 'jacquardlaw08.VfloatsOne', WHERE WHAT IT READS IS OF BULK AT MOST 1048576: true; the input reads as it did. -/
def vfloatsOneUptoRow : OpenClaim := { program := "ytimaanpcglbnpaadoor", sum := "923f410aa0f43897a24cf64d654a8be5e7453430b852080a0d1c5b6913e772b6", func := "jacquard/jacquardlaw08.VfloatsOne", spec := "vfloatsOne", inPlace := ["math.Float32frombits", "math.Float64frombits", "math.sqrt", "math.Float32bits", "math.Float64bits", "math.archCeil", "math.archFloor", "math.archTrunc", "math.RoundToEven", "math.archMin", "math.archMax"], unfollowed := true, recurses := true, named := ["jacquard/ints.widths", "math/bits.deBruijn64tab"], apart := false, laid := [("math/bits.deBruijn64tab", laid_math_bits_deBruijn64tab), ("jacquard/ints.widths", laid_jacquard_ints_widths)], narrowed := true }
def VfloatsOneUptoSaid : Prop := vfloatsOneUptoRow.holds Tryd.pinned (OpenSpec.upto vfloatsOneSpec)

end Rows
end Go.Proofs.YtimaanpcglbnpaaDoor

/-
  No cell of these rows narrows 'for every input' (looked for: loops, veiled, ifaces, maps, wideKeys, modest, calm, conditions, laid).
  DERIVED. THE GIVEN ROWS OF THIS SEAT. 7 by the template 'for every input the law returns true; each argument reads behind the call as it read before'; 0 by the template 'total and deterministic' (their statements: YtaabolgkoegohaaTotals.lean).
  GIVEN WITH THE SEED: the statements are not yours to turn. If you find one false, say at which input.
  Laid BY PROGRAM, IN A SANDBOX (cutbox-rows.mjs): the forced cells as the released guide's own fill.sh prints them over the translation 343a7909a3a07390… (all of the seat's roots in one cut). By AI agents, Wed Nov 11 2026. No macro, syntax, notation, axiom, sorry.
-/
import Derived.Test.YtaabolgkoegohaaChecked
import GoSem.Claim
import GoSem.ClaimJoined
import GoSem.ClaimMapViews
import Derived.JoinedTies
import Derived.KernelRfl
namespace Go.Proofs.Ytaabolgkoegohaa
/- THE CELL 'sum', in the pinned program and in every row, IS THE sha256 OF THE DUMP (.gsa) THAT YtaabolgkoegohaaProg.lean LOADS. Nothing in Lean hashes anything: it is a label: what it is worth is what the hold of that sum in a sandbox is worth. -/
noncomputable def Try.pinned : Pinned := { name := "ytaabolgkoegohaa", sum := "343a7909a3a0739010fef1b72f5172bddaedb3ce8fe909bd0c1e36af400c9845", checked := Try.checked }
namespace Rows
def none {H : Type} : Left H := { results := [], args := [] }

/-- 'jacquardlaw05.ConvsWidths': WHATEVER THE INPUT: true; the input reads as it did. -/
def convsWidthsSpec : ChangeSpec := { name := "convsWidths", fn := fun _ => fun
  | [d1, d2] => { results := [.lit (.bool true)], args := [d1, d2] }
  | _ => none }
def convsWidthsRow : OpenClaim := { program := "ytaabolgkoegohaa", sum := "343a7909a3a0739010fef1b72f5172bddaedb3ce8fe909bd0c1e36af400c9845", func := "jacquard/jacquardlaw05.ConvsWidths", spec := "convsWidths", inPlace := ["math.Float32frombits", "math.Float64frombits", "math.Float64bits", "math.Float32bits"], apart := false }
def ConvsWidthsSaid : Prop := convsWidthsRow.holds Try.pinned (OpenSpec.ofChange convsWidthsSpec)

/-- ITS FALSE NEIGHBOUR: 'it returns false'. Refute it at one input. -/
def convsWidthsWrong : ChangeSpec := { name := "convsWidths", fn := fun _ => fun
  | [d1, d2] => { results := [.lit (.bool false)], args := [d1, d2] }
  | _ => none }
def ConvsWidthsWrongFalsely : Prop := convsWidthsRow.holds Try.pinned (OpenSpec.ofChange convsWidthsWrong)

/-- 'jacquardlaw05.ConvsFloats': WHATEVER THE INPUT: true; the input reads as it did. -/
def convsFloatsSpec : ChangeSpec := { name := "convsFloats", fn := fun _ => fun
  | [d1, d2, d3, d4] => { results := [.lit (.bool true)], args := [d1, d2, d3, d4] }
  | _ => none }
def convsFloatsRow : OpenClaim := { program := "ytaabolgkoegohaa", sum := "343a7909a3a0739010fef1b72f5172bddaedb3ce8fe909bd0c1e36af400c9845", func := "jacquard/jacquardlaw05.ConvsFloats", spec := "convsFloats", inPlace := ["math.Float32bits", "math.Float64bits", "math.Float32frombits", "math.Float64frombits"], apart := false }
def ConvsFloatsSaid : Prop := convsFloatsRow.holds Try.pinned (OpenSpec.ofChange convsFloatsSpec)

/-- ITS FALSE NEIGHBOUR: 'it returns false'. Refute it at one input. -/
def convsFloatsWrong : ChangeSpec := { name := "convsFloats", fn := fun _ => fun
  | [d1, d2, d3, d4] => { results := [.lit (.bool false)], args := [d1, d2, d3, d4] }
  | _ => none }
def ConvsFloatsWrongFalsely : Prop := convsFloatsRow.holds Try.pinned (OpenSpec.ofChange convsFloatsWrong)

/-- 'jacquardlaw05.ConvsWhole': WHATEVER THE INPUT: true; the input reads as it did. -/
def convsWholeSpec : ChangeSpec := { name := "convsWhole", fn := fun _ => fun
  | [d] => { results := [.lit (.bool true)], args := [d] }
  | _ => none }
def convsWholeRow : OpenClaim := { program := "ytaabolgkoegohaa", sum := "343a7909a3a0739010fef1b72f5172bddaedb3ce8fe909bd0c1e36af400c9845", func := "jacquard/jacquardlaw05.ConvsWhole", spec := "convsWhole", inPlace := ["math.Float32bits", "math.Float64bits", "math.Float32frombits", "math.Float64frombits"], apart := false }
def ConvsWholeSaid : Prop := convsWholeRow.holds Try.pinned (OpenSpec.ofChange convsWholeSpec)

/-- ITS FALSE NEIGHBOUR: 'it returns false'. Refute it at one input. -/
def convsWholeWrong : ChangeSpec := { name := "convsWhole", fn := fun _ => fun
  | [d] => { results := [.lit (.bool false)], args := [d] }
  | _ => none }
def ConvsWholeWrongFalsely : Prop := convsWholeRow.holds Try.pinned (OpenSpec.ofChange convsWholeWrong)

/-- 'jacquardlaw05.ConvsCuts': WHATEVER THE INPUT: true; the input reads as it did. -/
def convsCutsSpec : ChangeSpec := { name := "convsCuts", fn := fun _ => fun
  | [d1, d2, d3, d4] => { results := [.lit (.bool true)], args := [d1, d2, d3, d4] }
  | _ => none }
def convsCutsRow : OpenClaim := { program := "ytaabolgkoegohaa", sum := "343a7909a3a0739010fef1b72f5172bddaedb3ce8fe909bd0c1e36af400c9845", func := "jacquard/jacquardlaw05.ConvsCuts", spec := "convsCuts", inPlace := ["math.Float32frombits", "math.Float64frombits", "math.Float64bits", "math.Float32bits"], apart := false }
def ConvsCutsSaid : Prop := convsCutsRow.holds Try.pinned (OpenSpec.ofChange convsCutsSpec)

/-- ITS FALSE NEIGHBOUR: 'it returns false'. Refute it at one input. -/
def convsCutsWrong : ChangeSpec := { name := "convsCuts", fn := fun _ => fun
  | [d1, d2, d3, d4] => { results := [.lit (.bool false)], args := [d1, d2, d3, d4] }
  | _ => none }
def ConvsCutsWrongFalsely : Prop := convsCutsRow.holds Try.pinned (OpenSpec.ofChange convsCutsWrong)

/-- 'jacquardlaw05.ConvsBack': WHATEVER THE INPUT: true; the input reads as it did. -/
def convsBackSpec : ChangeSpec := { name := "convsBack", fn := fun _ => fun
  | [d] => { results := [.lit (.bool true)], args := [d] }
  | _ => none }
def convsBackRow : OpenClaim := { program := "ytaabolgkoegohaa", sum := "343a7909a3a0739010fef1b72f5172bddaedb3ce8fe909bd0c1e36af400c9845", func := "jacquard/jacquardlaw05.ConvsBack", spec := "convsBack", inPlace := ["math.Float32frombits", "math.Float64frombits", "math.Float64bits", "math.Float32bits"], apart := false }
def ConvsBackSaid : Prop := convsBackRow.holds Try.pinned (OpenSpec.ofChange convsBackSpec)

/-- ITS FALSE NEIGHBOUR: 'it returns false'. Refute it at one input. -/
def convsBackWrong : ChangeSpec := { name := "convsBack", fn := fun _ => fun
  | [d] => { results := [.lit (.bool false)], args := [d] }
  | _ => none }
def ConvsBackWrongFalsely : Prop := convsBackRow.holds Try.pinned (OpenSpec.ofChange convsBackWrong)

/-- 'jacquardlaw05.ConvsHeld': WHATEVER THE INPUT: true; the input reads as it did. -/
def convsHeldSpec : ChangeSpec := { name := "convsHeld", fn := fun _ => fun
  | [d1, d2, d3, d4] => { results := [.lit (.bool true)], args := [d1, d2, d3, d4] }
  | _ => none }
def convsHeldRow : OpenClaim := { program := "ytaabolgkoegohaa", sum := "343a7909a3a0739010fef1b72f5172bddaedb3ce8fe909bd0c1e36af400c9845", func := "jacquard/jacquardlaw05.ConvsHeld", spec := "convsHeld", inPlace := ["math.Float32frombits", "math.Float64frombits", "math.Float64bits", "math.Float32bits"], apart := false }
def ConvsHeldSaid : Prop := convsHeldRow.holds Try.pinned (OpenSpec.ofChange convsHeldSpec)

/-- ITS FALSE NEIGHBOUR: 'it returns false'. Refute it at one input. -/
def convsHeldWrong : ChangeSpec := { name := "convsHeld", fn := fun _ => fun
  | [d1, d2, d3, d4] => { results := [.lit (.bool false)], args := [d1, d2, d3, d4] }
  | _ => none }
def ConvsHeldWrongFalsely : Prop := convsHeldRow.holds Try.pinned (OpenSpec.ofChange convsHeldWrong)

/-- 'jacquardlaw05.ConvsPlaces': WHATEVER THE INPUT: true; the input reads as it did. -/
def convsPlacesSpec : ChangeSpec := { name := "convsPlaces", fn := fun _ => fun
  | [d1, d2, d3, d4] => { results := [.lit (.bool true)], args := [d1, d2, d3, d4] }
  | _ => none }
def convsPlacesRow : OpenClaim := { program := "ytaabolgkoegohaa", sum := "343a7909a3a0739010fef1b72f5172bddaedb3ce8fe909bd0c1e36af400c9845", func := "jacquard/jacquardlaw05.ConvsPlaces", spec := "convsPlaces", inPlace := ["math.Float32frombits", "math.Float64frombits", "math.Float64bits", "math.Float32bits"], apart := false }
def ConvsPlacesSaid : Prop := convsPlacesRow.holds Try.pinned (OpenSpec.ofChange convsPlacesSpec)

/-- ITS FALSE NEIGHBOUR: 'it returns false'. Refute it at one input. -/
def convsPlacesWrong : ChangeSpec := { name := "convsPlaces", fn := fun _ => fun
  | [d1, d2, d3, d4] => { results := [.lit (.bool false)], args := [d1, d2, d3, d4] }
  | _ => none }
def ConvsPlacesWrongFalsely : Prop := convsPlacesRow.holds Try.pinned (OpenSpec.ofChange convsPlacesWrong)

/- THE SECOND FORM. 'bulk': how many values and letters a reading holds, each counted each time it is reached (what is shared counts as often as it is met; a slice's spare places count too). A statement '..UptoSaid' is the law's where the arguments, and the package variables that the reading takes, are together of bulk at most 1048576: NARROWER than '..Said'. Prove '..Said' where nothing that the law and all that it calls make is longer than what came in: it says more and counts as full. Else prove '..UptoSaid'. A law counts once. -/
mutual
def uptoBulk {H : Type} : DataW H → Nat
  | .lit (.string bytes) => bytes.length + 1
  | .lit _ => 1
  | .nil => 1
  | .ptr d => uptoBulk d + 1
  | .slice elems spare => uptoBulkAll elems + uptoBulkAll spare + 1
  | .agg parts => uptoBulkAll parts + 1
  | .iface _ d => uptoBulk d + 1
  | .map entries => uptoBulkEntries entries + 1
  | .held _ => 1
def uptoBulkAll {H : Type} : List (DataW H) → Nat
  | [] => 0
  | d :: r => uptoBulk d + uptoBulkAll r
def uptoBulkEntries {H : Type} : List (Lit × DataW H) → Nat
  | [] => 0
  | x :: r => uptoBulkEntry x + uptoBulkEntries r
def uptoBulkEntry {H : Type} : Lit × DataW H → Nat
  | (.string bytes, d) => bytes.length + uptoBulk d + 1
  | (_, d) => uptoBulk d + 1
 end
def uptoSmall : (H : Type) → List (DataW H) → Bool := fun _ ds => decide (uptoBulkAll ds ≤ 1048576)
def OpenSpec.upto (s : _root_.Go.ChangeSpec) : _root_.Go.OpenSpec := { _root_.Go.OpenSpec.ofChange s with cond := some uptoSmall }

/-- 'jacquardlaw05.ConvsWidths', WHERE WHAT IT READS IS OF BULK AT MOST 1048576: true; the input reads as it did. -/
def convsWidthsUptoRow : OpenClaim := { program := "ytaabolgkoegohaa", sum := "343a7909a3a0739010fef1b72f5172bddaedb3ce8fe909bd0c1e36af400c9845", func := "jacquard/jacquardlaw05.ConvsWidths", spec := "convsWidths", inPlace := ["math.Float32frombits", "math.Float64frombits", "math.Float64bits", "math.Float32bits"], apart := false, narrowed := true }
def ConvsWidthsUptoSaid : Prop := convsWidthsUptoRow.holds Try.pinned (OpenSpec.upto convsWidthsSpec)

/-- 'jacquardlaw05.ConvsFloats', WHERE WHAT IT READS IS OF BULK AT MOST 1048576: true; the input reads as it did. -/
def convsFloatsUptoRow : OpenClaim := { program := "ytaabolgkoegohaa", sum := "343a7909a3a0739010fef1b72f5172bddaedb3ce8fe909bd0c1e36af400c9845", func := "jacquard/jacquardlaw05.ConvsFloats", spec := "convsFloats", inPlace := ["math.Float32bits", "math.Float64bits", "math.Float32frombits", "math.Float64frombits"], apart := false, narrowed := true }
def ConvsFloatsUptoSaid : Prop := convsFloatsUptoRow.holds Try.pinned (OpenSpec.upto convsFloatsSpec)

/-- 'jacquardlaw05.ConvsWhole', WHERE WHAT IT READS IS OF BULK AT MOST 1048576: true; the input reads as it did. -/
def convsWholeUptoRow : OpenClaim := { program := "ytaabolgkoegohaa", sum := "343a7909a3a0739010fef1b72f5172bddaedb3ce8fe909bd0c1e36af400c9845", func := "jacquard/jacquardlaw05.ConvsWhole", spec := "convsWhole", inPlace := ["math.Float32bits", "math.Float64bits", "math.Float32frombits", "math.Float64frombits"], apart := false, narrowed := true }
def ConvsWholeUptoSaid : Prop := convsWholeUptoRow.holds Try.pinned (OpenSpec.upto convsWholeSpec)

/-- 'jacquardlaw05.ConvsCuts', WHERE WHAT IT READS IS OF BULK AT MOST 1048576: true; the input reads as it did. -/
def convsCutsUptoRow : OpenClaim := { program := "ytaabolgkoegohaa", sum := "343a7909a3a0739010fef1b72f5172bddaedb3ce8fe909bd0c1e36af400c9845", func := "jacquard/jacquardlaw05.ConvsCuts", spec := "convsCuts", inPlace := ["math.Float32frombits", "math.Float64frombits", "math.Float64bits", "math.Float32bits"], apart := false, narrowed := true }
def ConvsCutsUptoSaid : Prop := convsCutsUptoRow.holds Try.pinned (OpenSpec.upto convsCutsSpec)

/-- 'jacquardlaw05.ConvsBack', WHERE WHAT IT READS IS OF BULK AT MOST 1048576: true; the input reads as it did. -/
def convsBackUptoRow : OpenClaim := { program := "ytaabolgkoegohaa", sum := "343a7909a3a0739010fef1b72f5172bddaedb3ce8fe909bd0c1e36af400c9845", func := "jacquard/jacquardlaw05.ConvsBack", spec := "convsBack", inPlace := ["math.Float32frombits", "math.Float64frombits", "math.Float64bits", "math.Float32bits"], apart := false, narrowed := true }
def ConvsBackUptoSaid : Prop := convsBackUptoRow.holds Try.pinned (OpenSpec.upto convsBackSpec)

/-- 'jacquardlaw05.ConvsHeld', WHERE WHAT IT READS IS OF BULK AT MOST 1048576: true; the input reads as it did. -/
def convsHeldUptoRow : OpenClaim := { program := "ytaabolgkoegohaa", sum := "343a7909a3a0739010fef1b72f5172bddaedb3ce8fe909bd0c1e36af400c9845", func := "jacquard/jacquardlaw05.ConvsHeld", spec := "convsHeld", inPlace := ["math.Float32frombits", "math.Float64frombits", "math.Float64bits", "math.Float32bits"], apart := false, narrowed := true }
def ConvsHeldUptoSaid : Prop := convsHeldUptoRow.holds Try.pinned (OpenSpec.upto convsHeldSpec)

/-- 'jacquardlaw05.ConvsPlaces', WHERE WHAT IT READS IS OF BULK AT MOST 1048576: true; the input reads as it did. -/
def convsPlacesUptoRow : OpenClaim := { program := "ytaabolgkoegohaa", sum := "343a7909a3a0739010fef1b72f5172bddaedb3ce8fe909bd0c1e36af400c9845", func := "jacquard/jacquardlaw05.ConvsPlaces", spec := "convsPlaces", inPlace := ["math.Float32frombits", "math.Float64frombits", "math.Float64bits", "math.Float32bits"], apart := false, narrowed := true }
def ConvsPlacesUptoSaid : Prop := convsPlacesUptoRow.holds Try.pinned (OpenSpec.upto convsPlacesSpec)

end Rows
end Go.Proofs.Ytaabolgkoegohaa

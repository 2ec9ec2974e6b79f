/-
  No cell of these rows narrows 'for every input' (looked for: loops, veiled, ifaces, maps, wideKeys, modest, calm, conditions, laid).
  DERIVED. THE GIVEN ROWS OF THIS SEAT. 10 by the template 'for every input the law returns true; each argument reads behind the call as it read before'; 0 by the template 'total and deterministic' (their statements: YtieeafjcnomakaaTotals.lean).
  GIVEN WITH THE SEED: the statements are not yours to turn. If you find one false, say at which input.
  Laid BY PROGRAM, IN A SANDBOX (cutbox-rows.mjs): the forced cells as the released guide's own fill.sh prints them over the translation cff7a9daf608ea64… (all of the seat's roots in one cut). By AI agents, Wed Nov 11 2026. No macro, syntax, notation, axiom, sorry.
-/
import Derived.Test.YtieeafjcnomakaaChecked
import GoSem.Claim
import GoSem.ClaimJoined
import GoSem.ClaimMapViews
import Derived.JoinedTies
import Derived.KernelRfl
namespace Go.Proofs.Ytieeafjcnomakaa
/- THE CELL 'sum', in the pinned program and in every row, IS THE sha256 OF THE DUMP (.gsa) THAT YtieeafjcnomakaaProg.lean LOADS. Nothing in Lean hashes anything: it is a label: what it is worth is what the hold of that sum in a sandbox is worth. -/
noncomputable def Try.pinned : Pinned := { name := "ytieeafjcnomakaa", sum := "cff7a9daf608ea64ac8942efe6d6eb295329c6d36d018b0c7972e8e5a98cf32a", checked := Try.checked }
namespace Rows
def none {H : Type} : Left H := { results := [], args := [] }

/-- 'jacquardlaw04.FloatsTwo': WHATEVER THE INPUT: true; the input reads as it did. -/
def floatsTwoSpec : ChangeSpec := { name := "floatsTwo", fn := fun _ => fun
  | [d1, d2, d3, d4] => { results := [.lit (.bool true)], args := [d1, d2, d3, d4] }
  | _ => none }
def floatsTwoRow : OpenClaim := { program := "ytieeafjcnomakaa", sum := "cff7a9daf608ea64ac8942efe6d6eb295329c6d36d018b0c7972e8e5a98cf32a", func := "jacquard/jacquardlaw04.FloatsTwo", spec := "floatsTwo", inPlace := ["math.Float32frombits", "math.Float64frombits", "math.Float32bits", "math.Float64bits", "math.archMin", "math.archMax"], unfollowed := true, recurses := true, apart := false }
def FloatsTwoSaid : Prop := floatsTwoRow.holds Try.pinned (OpenSpec.ofChange floatsTwoSpec)

/-- ITS FALSE NEIGHBOUR: 'it returns false'. Refute it at one input. -/
def floatsTwoWrong : ChangeSpec := { name := "floatsTwo", fn := fun _ => fun
  | [d1, d2, d3, d4] => { results := [.lit (.bool false)], args := [d1, d2, d3, d4] }
  | _ => none }
def FloatsTwoWrongFalsely : Prop := floatsTwoRow.holds Try.pinned (OpenSpec.ofChange floatsTwoWrong)

/-- 'jacquardlaw04.FloatsThan': WHATEVER THE INPUT: true; the input reads as it did. -/
def floatsThanSpec : ChangeSpec := { name := "floatsThan", fn := fun _ => fun
  | [d1, d2, d3, d4] => { results := [.lit (.bool true)], args := [d1, d2, d3, d4] }
  | _ => none }
def floatsThanRow : OpenClaim := { program := "ytieeafjcnomakaa", sum := "cff7a9daf608ea64ac8942efe6d6eb295329c6d36d018b0c7972e8e5a98cf32a", func := "jacquard/jacquardlaw04.FloatsThan", spec := "floatsThan", inPlace := ["math.Float32frombits", "math.Float64frombits", "math.Float32bits", "math.Float64bits", "math.archMin", "math.archMax"], unfollowed := true, recurses := true, apart := false }
def FloatsThanSaid : Prop := floatsThanRow.holds Try.pinned (OpenSpec.ofChange floatsThanSpec)

/-- ITS FALSE NEIGHBOUR: 'it returns false'. Refute it at one input. -/
def floatsThanWrong : ChangeSpec := { name := "floatsThan", fn := fun _ => fun
  | [d1, d2, d3, d4] => { results := [.lit (.bool false)], args := [d1, d2, d3, d4] }
  | _ => none }
def FloatsThanWrongFalsely : Prop := floatsThanRow.holds Try.pinned (OpenSpec.ofChange floatsThanWrong)

/-- 'jacquardlaw04.FloatsLeast': WHATEVER THE INPUT: true; the input reads as it did. -/
def floatsLeastSpec : ChangeSpec := { name := "floatsLeast", fn := fun _ => fun
  | [d1, d2, d3] => { results := [.lit (.bool true)], args := [d1, d2, d3] }
  | _ => none }
def floatsLeastRow : OpenClaim := { program := "ytieeafjcnomakaa", sum := "cff7a9daf608ea64ac8942efe6d6eb295329c6d36d018b0c7972e8e5a98cf32a", func := "jacquard/jacquardlaw04.FloatsLeast", spec := "floatsLeast", inPlace := ["math.Float32frombits", "math.Float64frombits", "math.Float32bits", "math.Float64bits", "math.archMin", "math.archMax"], unfollowed := true, recurses := true, apart := false }
def FloatsLeastSaid : Prop := floatsLeastRow.holds Try.pinned (OpenSpec.ofChange floatsLeastSpec)

/-- ITS FALSE NEIGHBOUR: 'it returns false'. Refute it at one input. -/
def floatsLeastWrong : ChangeSpec := { name := "floatsLeast", fn := fun _ => fun
  | [d1, d2, d3] => { results := [.lit (.bool false)], args := [d1, d2, d3] }
  | _ => none }
def FloatsLeastWrongFalsely : Prop := floatsLeastRow.holds Try.pinned (OpenSpec.ofChange floatsLeastWrong)

/-- 'jacquardlaw04.FloatsOne': WHATEVER THE INPUT: true; the input reads as it did. -/
def floatsOneSpec : ChangeSpec := { name := "floatsOne", fn := fun _ => fun
  | [d1, d2, d3] => { results := [.lit (.bool true)], args := [d1, d2, d3] }
  | _ => none }
def floatsOneRow : OpenClaim := { program := "ytieeafjcnomakaa", sum := "cff7a9daf608ea64ac8942efe6d6eb295329c6d36d018b0c7972e8e5a98cf32a", func := "jacquard/jacquardlaw04.FloatsOne", spec := "floatsOne", inPlace := ["math.Float32frombits", "math.Float64frombits", "math.sqrt", "math.Float32bits", "math.Float64bits", "math.archCeil", "math.archFloor", "math.archTrunc", "math.RoundToEven", "math.archMin", "math.archMax"], unfollowed := true, recurses := true, apart := false }
def FloatsOneSaid : Prop := floatsOneRow.holds Try.pinned (OpenSpec.ofChange floatsOneSpec)

/-- ITS FALSE NEIGHBOUR: 'it returns false'. Refute it at one input. -/
def floatsOneWrong : ChangeSpec := { name := "floatsOne", fn := fun _ => fun
  | [d1, d2, d3] => { results := [.lit (.bool false)], args := [d1, d2, d3] }
  | _ => none }
def FloatsOneWrongFalsely : Prop := floatsOneRow.holds Try.pinned (OpenSpec.ofChange floatsOneWrong)

/-- 'jacquardlaw04.FloatsOrder': WHATEVER THE INPUT: true; the input reads as it did. -/
def floatsOrderSpec : ChangeSpec := { name := "floatsOrder", fn := fun _ => fun
  | [d1, d2, d3] => { results := [.lit (.bool true)], args := [d1, d2, d3] }
  | _ => none }
def floatsOrderRow : OpenClaim := { program := "ytieeafjcnomakaa", sum := "cff7a9daf608ea64ac8942efe6d6eb295329c6d36d018b0c7972e8e5a98cf32a", func := "jacquard/jacquardlaw04.FloatsOrder", spec := "floatsOrder", inPlace := ["math.Float32frombits", "math.Float64frombits", "math.Float32bits", "math.Float64bits", "math.archMin", "math.archMax", "math.sqrt", "math.archCeil", "math.archFloor", "math.archTrunc", "math.RoundToEven"], unfollowed := true, recurses := true, apart := false }
def FloatsOrderSaid : Prop := floatsOrderRow.holds Try.pinned (OpenSpec.ofChange floatsOrderSpec)

/-- ITS FALSE NEIGHBOUR: 'it returns false'. Refute it at one input. -/
def floatsOrderWrong : ChangeSpec := { name := "floatsOrder", fn := fun _ => fun
  | [d1, d2, d3] => { results := [.lit (.bool false)], args := [d1, d2, d3] }
  | _ => none }
def FloatsOrderWrongFalsely : Prop := floatsOrderRow.holds Try.pinned (OpenSpec.ofChange floatsOrderWrong)

/-- 'jacquardlaw04.FloatsSigns': WHATEVER THE INPUT: true; the input reads as it did. -/
def floatsSignsSpec : ChangeSpec := { name := "floatsSigns", fn := fun _ => fun
  | [d1, d2, d3] => { results := [.lit (.bool true)], args := [d1, d2, d3] }
  | _ => none }
def floatsSignsRow : OpenClaim := { program := "ytieeafjcnomakaa", sum := "cff7a9daf608ea64ac8942efe6d6eb295329c6d36d018b0c7972e8e5a98cf32a", func := "jacquard/jacquardlaw04.FloatsSigns", spec := "floatsSigns", inPlace := ["math.Float32frombits", "math.Float64frombits", "math.sqrt", "math.Float32bits", "math.Float64bits", "math.archCeil", "math.archFloor", "math.archTrunc", "math.RoundToEven", "math.archMin", "math.archMax"], unfollowed := true, recurses := true, apart := false }
def FloatsSignsSaid : Prop := floatsSignsRow.holds Try.pinned (OpenSpec.ofChange floatsSignsSpec)

/-- ITS FALSE NEIGHBOUR: 'it returns false'. Refute it at one input. -/
def floatsSignsWrong : ChangeSpec := { name := "floatsSigns", fn := fun _ => fun
  | [d1, d2, d3] => { results := [.lit (.bool false)], args := [d1, d2, d3] }
  | _ => none }
def FloatsSignsWrongFalsely : Prop := floatsSignsRow.holds Try.pinned (OpenSpec.ofChange floatsSignsWrong)

/-- 'jacquardlaw04.FloatsNone': WHATEVER THE INPUT: true; the input reads as it did. -/
def floatsNoneSpec : ChangeSpec := { name := "floatsNone", fn := fun _ => fun
  | [d1, d2, d3, d4] => { results := [.lit (.bool true)], args := [d1, d2, d3, d4] }
  | _ => none }
def floatsNoneRow : OpenClaim := { program := "ytieeafjcnomakaa", sum := "cff7a9daf608ea64ac8942efe6d6eb295329c6d36d018b0c7972e8e5a98cf32a", func := "jacquard/jacquardlaw04.FloatsNone", spec := "floatsNone", inPlace := ["math.Float32frombits", "math.Float64frombits", "math.Float32bits", "math.Float64bits", "math.archMin", "math.archMax", "math.sqrt", "math.archCeil", "math.archFloor", "math.archTrunc", "math.RoundToEven"], unfollowed := true, recurses := true, apart := false }
def FloatsNoneSaid : Prop := floatsNoneRow.holds Try.pinned (OpenSpec.ofChange floatsNoneSpec)

/-- ITS FALSE NEIGHBOUR: 'it returns false'. Refute it at one input. -/
def floatsNoneWrong : ChangeSpec := { name := "floatsNone", fn := fun _ => fun
  | [d1, d2, d3, d4] => { results := [.lit (.bool false)], args := [d1, d2, d3, d4] }
  | _ => none }
def FloatsNoneWrongFalsely : Prop := floatsNoneRow.holds Try.pinned (OpenSpec.ofChange floatsNoneWrong)

/-- 'jacquardlaw04.FloatsWhole': WHATEVER THE INPUT: true; the input reads as it did. -/
def floatsWholeSpec : ChangeSpec := { name := "floatsWhole", fn := fun _ => fun
  | [d1, d2] => { results := [.lit (.bool true)], args := [d1, d2] }
  | _ => none }
def floatsWholeRow : OpenClaim := { program := "ytieeafjcnomakaa", sum := "cff7a9daf608ea64ac8942efe6d6eb295329c6d36d018b0c7972e8e5a98cf32a", func := "jacquard/jacquardlaw04.FloatsWhole", spec := "floatsWhole", inPlace := ["math.Float32frombits", "math.Float64frombits", "math.sqrt", "math.Float32bits", "math.Float64bits", "math.archCeil", "math.archFloor", "math.archTrunc", "math.RoundToEven", "math.archMin", "math.archMax"], unfollowed := true, recurses := true, apart := false }
def FloatsWholeSaid : Prop := floatsWholeRow.holds Try.pinned (OpenSpec.ofChange floatsWholeSpec)

/-- ITS FALSE NEIGHBOUR: 'it returns false'. Refute it at one input. -/
def floatsWholeWrong : ChangeSpec := { name := "floatsWhole", fn := fun _ => fun
  | [d1, d2] => { results := [.lit (.bool false)], args := [d1, d2] }
  | _ => none }
def FloatsWholeWrongFalsely : Prop := floatsWholeRow.holds Try.pinned (OpenSpec.ofChange floatsWholeWrong)

/-- 'jacquardlaw04.FloatsRoot': WHATEVER THE INPUT: true; the input reads as it did. -/
def floatsRootSpec : ChangeSpec := { name := "floatsRoot", fn := fun _ => fun
  | [d1, d2, d3] => { results := [.lit (.bool true)], args := [d1, d2, d3] }
  | _ => none }
def floatsRootRow : OpenClaim := { program := "ytieeafjcnomakaa", sum := "cff7a9daf608ea64ac8942efe6d6eb295329c6d36d018b0c7972e8e5a98cf32a", func := "jacquard/jacquardlaw04.FloatsRoot", spec := "floatsRoot", inPlace := ["math.Float32frombits", "math.Float64frombits", "math.sqrt", "math.Float32bits", "math.Float64bits", "math.archCeil", "math.archFloor", "math.archTrunc", "math.RoundToEven", "math.archMin", "math.archMax"], unfollowed := true, recurses := true, apart := false }
def FloatsRootSaid : Prop := floatsRootRow.holds Try.pinned (OpenSpec.ofChange floatsRootSpec)

/-- ITS FALSE NEIGHBOUR: 'it returns false'. Refute it at one input. -/
def floatsRootWrong : ChangeSpec := { name := "floatsRoot", fn := fun _ => fun
  | [d1, d2, d3] => { results := [.lit (.bool false)], args := [d1, d2, d3] }
  | _ => none }
def FloatsRootWrongFalsely : Prop := floatsRootRow.holds Try.pinned (OpenSpec.ofChange floatsRootWrong)

/-- 'jacquardlaw04.FloatsPlaces': WHATEVER THE INPUT: true; the input reads as it did. -/
def floatsPlacesSpec : ChangeSpec := { name := "floatsPlaces", fn := fun _ => fun
  | [d1, d2, d3, d4] => { results := [.lit (.bool true)], args := [d1, d2, d3, d4] }
  | _ => none }
def floatsPlacesRow : OpenClaim := { program := "ytieeafjcnomakaa", sum := "cff7a9daf608ea64ac8942efe6d6eb295329c6d36d018b0c7972e8e5a98cf32a", func := "jacquard/jacquardlaw04.FloatsPlaces", spec := "floatsPlaces", inPlace := ["math.Float32frombits", "math.Float64frombits", "math.Float32bits", "math.Float64bits", "math.archMin", "math.archMax", "math.sqrt", "math.archCeil", "math.archFloor", "math.archTrunc", "math.RoundToEven"], unfollowed := true, recurses := true, apart := false }
def FloatsPlacesSaid : Prop := floatsPlacesRow.holds Try.pinned (OpenSpec.ofChange floatsPlacesSpec)

/-- ITS FALSE NEIGHBOUR: 'it returns false'. Refute it at one input. -/
def floatsPlacesWrong : ChangeSpec := { name := "floatsPlaces", fn := fun _ => fun
  | [d1, d2, d3, d4] => { results := [.lit (.bool false)], args := [d1, d2, d3, d4] }
  | _ => none }
def FloatsPlacesWrongFalsely : Prop := floatsPlacesRow.holds Try.pinned (OpenSpec.ofChange floatsPlacesWrong)

/- THE SECOND FORM. 'bulk': how many values and letters a reading holds, each counted each time it is reached (what is shared counts as often as it is met; a slice's spare places count too). A statement '..UptoSaid' is the law's where the arguments, and the package variables that the reading takes, are together of bulk at most 1048576: NARROWER than '..Said'. Prove '..Said' where nothing that the law and all that it calls make is longer than what came in: it says more and counts as full. Else prove '..UptoSaid'. A law counts once. -/
mutual
def uptoBulk {H : Type} : DataW H → Nat
  | .lit (.string bytes) => bytes.length + 1
  | .lit _ => 1
  | .nil => 1
  | .ptr d => uptoBulk d + 1
  | .slice elems spare => uptoBulkAll elems + uptoBulkAll spare + 1
  | .agg parts => uptoBulkAll parts + 1
  | .iface _ d => uptoBulk d + 1
  | .map entries => uptoBulkEntries entries + 1
  | .held _ => 1
def uptoBulkAll {H : Type} : List (DataW H) → Nat
  | [] => 0
  | d :: r => uptoBulk d + uptoBulkAll r
def uptoBulkEntries {H : Type} : List (Lit × DataW H) → Nat
  | [] => 0
  | x :: r => uptoBulkEntry x + uptoBulkEntries r
def uptoBulkEntry {H : Type} : Lit × DataW H → Nat
  | (.string bytes, d) => bytes.length + uptoBulk d + 1
  | (_, d) => uptoBulk d + 1
 end
def uptoSmall : (H : Type) → List (DataW H) → Bool := fun _ ds => decide (uptoBulkAll ds ≤ 1048576)
def OpenSpec.upto (s : _root_.Go.ChangeSpec) : _root_.Go.OpenSpec := { _root_.Go.OpenSpec.ofChange s with cond := some uptoSmall }

/-- 'jacquardlaw04.FloatsTwo', WHERE WHAT IT READS IS OF BULK AT MOST 1048576: true; the input reads as it did. -/
def floatsTwoUptoRow : OpenClaim := { program := "ytieeafjcnomakaa", sum := "cff7a9daf608ea64ac8942efe6d6eb295329c6d36d018b0c7972e8e5a98cf32a", func := "jacquard/jacquardlaw04.FloatsTwo", spec := "floatsTwo", inPlace := ["math.Float32frombits", "math.Float64frombits", "math.Float32bits", "math.Float64bits", "math.archMin", "math.archMax"], unfollowed := true, recurses := true, apart := false, narrowed := true }
def FloatsTwoUptoSaid : Prop := floatsTwoUptoRow.holds Try.pinned (OpenSpec.upto floatsTwoSpec)

/-- 'jacquardlaw04.FloatsThan', WHERE WHAT IT READS IS OF BULK AT MOST 1048576: true; the input reads as it did. -/
def floatsThanUptoRow : OpenClaim := { program := "ytieeafjcnomakaa", sum := "cff7a9daf608ea64ac8942efe6d6eb295329c6d36d018b0c7972e8e5a98cf32a", func := "jacquard/jacquardlaw04.FloatsThan", spec := "floatsThan", inPlace := ["math.Float32frombits", "math.Float64frombits", "math.Float32bits", "math.Float64bits", "math.archMin", "math.archMax"], unfollowed := true, recurses := true, apart := false, narrowed := true }
def FloatsThanUptoSaid : Prop := floatsThanUptoRow.holds Try.pinned (OpenSpec.upto floatsThanSpec)

/-- 'jacquardlaw04.FloatsLeast', WHERE WHAT IT READS IS OF BULK AT MOST 1048576: true; the input reads as it did. -/
def floatsLeastUptoRow : OpenClaim := { program := "ytieeafjcnomakaa", sum := "cff7a9daf608ea64ac8942efe6d6eb295329c6d36d018b0c7972e8e5a98cf32a", func := "jacquard/jacquardlaw04.FloatsLeast", spec := "floatsLeast", inPlace := ["math.Float32frombits", "math.Float64frombits", "math.Float32bits", "math.Float64bits", "math.archMin", "math.archMax"], unfollowed := true, recurses := true, apart := false, narrowed := true }
def FloatsLeastUptoSaid : Prop := floatsLeastUptoRow.holds Try.pinned (OpenSpec.upto floatsLeastSpec)

/-- 'jacquardlaw04.FloatsOne', WHERE WHAT IT READS IS OF BULK AT MOST 1048576: true; the input reads as it did. -/
def floatsOneUptoRow : OpenClaim := { program := "ytieeafjcnomakaa", sum := "cff7a9daf608ea64ac8942efe6d6eb295329c6d36d018b0c7972e8e5a98cf32a", func := "jacquard/jacquardlaw04.FloatsOne", spec := "floatsOne", inPlace := ["math.Float32frombits", "math.Float64frombits", "math.sqrt", "math.Float32bits", "math.Float64bits", "math.archCeil", "math.archFloor", "math.archTrunc", "math.RoundToEven", "math.archMin", "math.archMax"], unfollowed := true, recurses := true, apart := false, narrowed := true }
def FloatsOneUptoSaid : Prop := floatsOneUptoRow.holds Try.pinned (OpenSpec.upto floatsOneSpec)

/-- 'jacquardlaw04.FloatsOrder', WHERE WHAT IT READS IS OF BULK AT MOST 1048576: true; the input reads as it did. -/
def floatsOrderUptoRow : OpenClaim := { program := "ytieeafjcnomakaa", sum := "cff7a9daf608ea64ac8942efe6d6eb295329c6d36d018b0c7972e8e5a98cf32a", func := "jacquard/jacquardlaw04.FloatsOrder", spec := "floatsOrder", inPlace := ["math.Float32frombits", "math.Float64frombits", "math.Float32bits", "math.Float64bits", "math.archMin", "math.archMax", "math.sqrt", "math.archCeil", "math.archFloor", "math.archTrunc", "math.RoundToEven"], unfollowed := true, recurses := true, apart := false, narrowed := true }
def FloatsOrderUptoSaid : Prop := floatsOrderUptoRow.holds Try.pinned (OpenSpec.upto floatsOrderSpec)

/-- 'jacquardlaw04.FloatsSigns', WHERE WHAT IT READS IS OF BULK AT MOST 1048576: true; the input reads as it did. -/
def floatsSignsUptoRow : OpenClaim := { program := "ytieeafjcnomakaa", sum := "cff7a9daf608ea64ac8942efe6d6eb295329c6d36d018b0c7972e8e5a98cf32a", func := "jacquard/jacquardlaw04.FloatsSigns", spec := "floatsSigns", inPlace := ["math.Float32frombits", "math.Float64frombits", "math.sqrt", "math.Float32bits", "math.Float64bits", "math.archCeil", "math.archFloor", "math.archTrunc", "math.RoundToEven", "math.archMin", "math.archMax"], unfollowed := true, recurses := true, apart := false, narrowed := true }
def FloatsSignsUptoSaid : Prop := floatsSignsUptoRow.holds Try.pinned (OpenSpec.upto floatsSignsSpec)

/-- 'jacquardlaw04.FloatsNone', WHERE WHAT IT READS IS OF BULK AT MOST 1048576: true; the input reads as it did. -/
def floatsNoneUptoRow : OpenClaim := { program := "ytieeafjcnomakaa", sum := "cff7a9daf608ea64ac8942efe6d6eb295329c6d36d018b0c7972e8e5a98cf32a", func := "jacquard/jacquardlaw04.FloatsNone", spec := "floatsNone", inPlace := ["math.Float32frombits", "math.Float64frombits", "math.Float32bits", "math.Float64bits", "math.archMin", "math.archMax", "math.sqrt", "math.archCeil", "math.archFloor", "math.archTrunc", "math.RoundToEven"], unfollowed := true, recurses := true, apart := false, narrowed := true }
def FloatsNoneUptoSaid : Prop := floatsNoneUptoRow.holds Try.pinned (OpenSpec.upto floatsNoneSpec)

/-- 'jacquardlaw04.FloatsWhole', WHERE WHAT IT READS IS OF BULK AT MOST 1048576: true; the input reads as it did. -/
def floatsWholeUptoRow : OpenClaim := { program := "ytieeafjcnomakaa", sum := "cff7a9daf608ea64ac8942efe6d6eb295329c6d36d018b0c7972e8e5a98cf32a", func := "jacquard/jacquardlaw04.FloatsWhole", spec := "floatsWhole", inPlace := ["math.Float32frombits", "math.Float64frombits", "math.sqrt", "math.Float32bits", "math.Float64bits", "math.archCeil", "math.archFloor", "math.archTrunc", "math.RoundToEven", "math.archMin", "math.archMax"], unfollowed := true, recurses := true, apart := false, narrowed := true }
def FloatsWholeUptoSaid : Prop := floatsWholeUptoRow.holds Try.pinned (OpenSpec.upto floatsWholeSpec)

/-- 'jacquardlaw04.FloatsRoot', WHERE WHAT IT READS IS OF BULK AT MOST 1048576: true; the input reads as it did. -/
def floatsRootUptoRow : OpenClaim := { program := "ytieeafjcnomakaa", sum := "cff7a9daf608ea64ac8942efe6d6eb295329c6d36d018b0c7972e8e5a98cf32a", func := "jacquard/jacquardlaw04.FloatsRoot", spec := "floatsRoot", inPlace := ["math.Float32frombits", "math.Float64frombits", "math.sqrt", "math.Float32bits", "math.Float64bits", "math.archCeil", "math.archFloor", "math.archTrunc", "math.RoundToEven", "math.archMin", "math.archMax"], unfollowed := true, recurses := true, apart := false, narrowed := true }
def FloatsRootUptoSaid : Prop := floatsRootUptoRow.holds Try.pinned (OpenSpec.upto floatsRootSpec)

/-- 'jacquardlaw04.FloatsPlaces', WHERE WHAT IT READS IS OF BULK AT MOST 1048576: true; the input reads as it did. -/
def floatsPlacesUptoRow : OpenClaim := { program := "ytieeafjcnomakaa", sum := "cff7a9daf608ea64ac8942efe6d6eb295329c6d36d018b0c7972e8e5a98cf32a", func := "jacquard/jacquardlaw04.FloatsPlaces", spec := "floatsPlaces", inPlace := ["math.Float32frombits", "math.Float64frombits", "math.Float32bits", "math.Float64bits", "math.archMin", "math.archMax", "math.sqrt", "math.archCeil", "math.archFloor", "math.archTrunc", "math.RoundToEven"], unfollowed := true, recurses := true, apart := false, narrowed := true }
def FloatsPlacesUptoSaid : Prop := floatsPlacesUptoRow.holds Try.pinned (OpenSpec.upto floatsPlacesSpec)

end Rows
end Go.Proofs.Ytieeafjcnomakaa

/-
  DERIVED. GIVEN WITH THE SEED: THE CARDS: each row of YtaabolgkoegohaaDoorRows.lean that lists a variable, with what it lists TIED to the program's text (the seventh form; the later family's looks); each row that meets fmt, with fmt's text TOLD by the authors' own Lean function (tested against real Go, not proved from fmt's source: count such statements apart). THE CARD IS WHAT COUNTS. Prove the row's statement (the work); the ties are given (YtaabolgkoegohaaDoorTie.lean); close each card by the builder's one call (the guide's Derived/Test/ToyasCard.lean, 'card_holds'). Laid BY PROGRAM, IN A SANDBOX (cutbox-door.mjs). By AI agents, Wed Nov 11 2026. No macro, syntax, notation, axiom, sorry.
-/
import Derived.Test.YtaabolgkoegohaaDoorRows
import GoSem.ClaimSeven
namespace Go.Proofs.YtaabolgkoegohaaDoor
namespace Rows

/-- THE TIED CARD OF 'jacquardlaw05.ConvsSigns'. -/
def convsSignsCard : Claim7 := { stood := { row := convsSignsRow, standIns := [], harness := (true, "ba08bf3db07695bf9ef0c846305b0b2d296e7b6ea1b5abd53ebe95b15804ec16"), looks := false }, kinds := [], alts := [], laidByText := true, laidKinds := [.data, .data], laidTests := true, laidLooks := .later }
def ConvsSignsCardSaid : Prop := Claim7.holds Tryd.pinned (.plain (OpenSpec.ofChange convsSignsSpec)) convsSignsCard

/-- THE TIED CARD OF 'jacquardlaw05.ConvsRises'. -/
def convsRisesCard : Claim7 := { stood := { row := convsRisesRow, standIns := [], harness := (true, "ba08bf3db07695bf9ef0c846305b0b2d296e7b6ea1b5abd53ebe95b15804ec16"), looks := false }, kinds := [], alts := [], laidByText := true, laidKinds := [.data], laidTests := true, laidLooks := .later }
def ConvsRisesCardSaid : Prop := Claim7.holds Tryd.pinned (.plain (OpenSpec.ofChange convsRisesSpec)) convsRisesCard

/-- THE SECOND FORM's CARD OF 'jacquardlaw05.ConvsSigns'. -/
def convsSignsUptoCard : Claim7 := { stood := { row := convsSignsUptoRow, standIns := [], harness := (true, "ba08bf3db07695bf9ef0c846305b0b2d296e7b6ea1b5abd53ebe95b15804ec16"), looks := false }, kinds := [], alts := [], laidByText := true, laidKinds := [.data, .data], laidTests := true, laidLooks := .later }
def ConvsSignsUptoCardSaid : Prop := Claim7.holds Tryd.pinned (.plain (OpenSpec.upto convsSignsSpec)) convsSignsUptoCard

/-- THE SECOND FORM's CARD OF 'jacquardlaw05.ConvsRises'. -/
def convsRisesUptoCard : Claim7 := { stood := { row := convsRisesUptoRow, standIns := [], harness := (true, "ba08bf3db07695bf9ef0c846305b0b2d296e7b6ea1b5abd53ebe95b15804ec16"), looks := false }, kinds := [], alts := [], laidByText := true, laidKinds := [.data], laidTests := true, laidLooks := .later }
def ConvsRisesUptoCardSaid : Prop := Claim7.holds Tryd.pinned (.plain (OpenSpec.upto convsRisesSpec)) convsRisesUptoCard
end Rows
end Go.Proofs.YtaabolgkoegohaaDoor

/-
  DERIVED. GIVEN WITH THE SEED: THE CARDS: each row of YtlcgkcnknjflpaaDoorRows.lean that lists a variable, with what it lists TIED to the program's text (the seventh form; the later family's looks); each row that meets fmt, with fmt's text TOLD by the authors' own Lean function (tested against real Go, not proved from fmt's source: count such statements apart). THE CARD IS WHAT COUNTS. Prove the row's statement (the work); the ties are given (YtlcgkcnknjflpaaDoorTie.lean); close each card by the builder's one call (the guide's Derived/Test/ToyasCard.lean, 'card_holds'). Laid BY PROGRAM, IN A SANDBOX (cutbox-door.mjs). By AI agents, Wed Nov 11 2026. No macro, syntax, notation, axiom, sorry.
-/
import Derived.Test.YtlcgkcnknjflpaaDoorRows
import GoSem.ClaimSeven
namespace Go.Proofs.YtlcgkcnknjflpaaDoor
namespace Rows

/-- THE TIED CARD OF 'jacquardlaw06.LanesGets'. -/
def lanesGetsCard : Claim7 := { stood := { row := lanesGetsRow, standIns := [], harness := (true, "50ea534d770c8cfc81d586210a578b6d85cee496650c1b3e9dbfd250a1c6ca86"), looks := false }, kinds := [], alts := [], laidByText := true, laidKinds := [.data, .data], laidTests := true, laidLooks := .later }
def LanesGetsCardSaid : Prop := Claim7.holds Tryd.pinned (.plain (OpenSpec.ofChange lanesGetsSpec)) lanesGetsCard

/-- THE TIED CARD OF 'jacquardlaw06.LanesSet'. -/
def lanesSetCard : Claim7 := { stood := { row := lanesSetRow, standIns := [], harness := (true, "50ea534d770c8cfc81d586210a578b6d85cee496650c1b3e9dbfd250a1c6ca86"), looks := false }, kinds := [], alts := [], laidByText := true, laidKinds := [.data, .data], laidTests := true, laidLooks := .later }
def LanesSetCardSaid : Prop := Claim7.holds Tryd.pinned (.plain (OpenSpec.ofChange lanesSetSpec)) lanesSetCard

/-- THE TIED CARD OF 'jacquardlaw06.LanesBits'. -/
def lanesBitsCard : Claim7 := { stood := { row := lanesBitsRow, standIns := [], harness := (true, "50ea534d770c8cfc81d586210a578b6d85cee496650c1b3e9dbfd250a1c6ca86"), looks := false }, kinds := [], alts := [], laidByText := true, laidKinds := [.data, .data], laidTests := true, laidLooks := .later }
def LanesBitsCardSaid : Prop := Claim7.holds Tryd.pinned (.plain (OpenSpec.ofChange lanesBitsSpec)) lanesBitsCard

/-- THE TIED CARD OF 'jacquardlaw06.LanesSelects'. -/
def lanesSelectsCard : Claim7 := { stood := { row := lanesSelectsRow, standIns := [], harness := (true, "50ea534d770c8cfc81d586210a578b6d85cee496650c1b3e9dbfd250a1c6ca86"), looks := false }, kinds := [], alts := [], laidByText := true, laidKinds := [.data, .data], laidTests := true, laidLooks := .later }
def LanesSelectsCardSaid : Prop := Claim7.holds Tryd.pinned (.plain (OpenSpec.ofChange lanesSelectsSpec)) lanesSelectsCard

/-- THE TIED CARD OF 'jacquardlaw06.LanesBytes'. -/
def lanesBytesCard : Claim7 := { stood := { row := lanesBytesRow, standIns := [], harness := (true, "50ea534d770c8cfc81d586210a578b6d85cee496650c1b3e9dbfd250a1c6ca86"), looks := false }, kinds := [], alts := [], laidByText := true, laidKinds := [.data, .data], laidTests := true, laidLooks := .later }
def LanesBytesCardSaid : Prop := Claim7.holds Tryd.pinned (.plain (OpenSpec.ofChange lanesBytesSpec)) lanesBytesCard

/-- THE TIED CARD OF 'jacquardlaw06.LanesLists'. -/
def lanesListsCard : Claim7 := { stood := { row := lanesListsRow, standIns := [], harness := (true, "50ea534d770c8cfc81d586210a578b6d85cee496650c1b3e9dbfd250a1c6ca86"), looks := false }, kinds := [], alts := [], laidByText := true, laidKinds := [.data, .data], laidTests := true, laidLooks := .later }
def LanesListsCardSaid : Prop := Claim7.holds Tryd.pinned (.plain (OpenSpec.ofChange lanesListsSpec)) lanesListsCard

/-- THE TIED CARD OF 'jacquardlaw06.LanesFresh'. -/
def lanesFreshCard : Claim7 := { stood := { row := lanesFreshRow, standIns := [], harness := (true, "50ea534d770c8cfc81d586210a578b6d85cee496650c1b3e9dbfd250a1c6ca86"), looks := false }, kinds := [], alts := [], laidByText := true, laidKinds := [.data, .data], laidTests := true, laidLooks := .later }
def LanesFreshCardSaid : Prop := Claim7.holds Tryd.pinned (.plain (OpenSpec.ofChange lanesFreshSpec)) lanesFreshCard

/-- THE TIED CARD OF 'jacquardlaw06.LanesMoves'. -/
def lanesMovesCard : Claim7 := { stood := { row := lanesMovesRow, standIns := [], harness := (true, "50ea534d770c8cfc81d586210a578b6d85cee496650c1b3e9dbfd250a1c6ca86"), looks := false }, kinds := [], alts := [], laidByText := true, laidKinds := [.data, .data], laidTests := true, laidLooks := .later }
def LanesMovesCardSaid : Prop := Claim7.holds Tryd.pinned (.plain (OpenSpec.ofChange lanesMovesSpec)) lanesMovesCard

/-- THE TIED CARD OF 'jacquardlaw06.LanesShuffles'. -/
def lanesShufflesCard : Claim7 := { stood := { row := lanesShufflesRow, standIns := [], harness := (true, "50ea534d770c8cfc81d586210a578b6d85cee496650c1b3e9dbfd250a1c6ca86"), looks := false }, kinds := [], alts := [], laidByText := true, laidKinds := [.data, .data], laidTests := true, laidLooks := .later }
def LanesShufflesCardSaid : Prop := Claim7.holds Tryd.pinned (.plain (OpenSpec.ofChange lanesShufflesSpec)) lanesShufflesCard

/-- THE TIED CARD OF 'jacquardlaw06.LanesBack'. -/
def lanesBackCard : Claim7 := { stood := { row := lanesBackRow, standIns := [], harness := (true, "50ea534d770c8cfc81d586210a578b6d85cee496650c1b3e9dbfd250a1c6ca86"), looks := false }, kinds := [], alts := [], laidByText := true, laidKinds := [.data, .data], laidTests := true, laidLooks := .later }
def LanesBackCardSaid : Prop := Claim7.holds Tryd.pinned (.plain (OpenSpec.ofChange lanesBackSpec)) lanesBackCard

/-- THE SECOND FORM's CARD OF 'jacquardlaw06.LanesGets'. -/
def lanesGetsUptoCard : Claim7 := { stood := { row := lanesGetsUptoRow, standIns := [], harness := (true, "50ea534d770c8cfc81d586210a578b6d85cee496650c1b3e9dbfd250a1c6ca86"), looks := false }, kinds := [], alts := [], laidByText := true, laidKinds := [.data, .data], laidTests := true, laidLooks := .later }
def LanesGetsUptoCardSaid : Prop := Claim7.holds Tryd.pinned (.plain (OpenSpec.upto lanesGetsSpec)) lanesGetsUptoCard

/-- THE SECOND FORM's CARD OF 'jacquardlaw06.LanesSet'. -/
def lanesSetUptoCard : Claim7 := { stood := { row := lanesSetUptoRow, standIns := [], harness := (true, "50ea534d770c8cfc81d586210a578b6d85cee496650c1b3e9dbfd250a1c6ca86"), looks := false }, kinds := [], alts := [], laidByText := true, laidKinds := [.data, .data], laidTests := true, laidLooks := .later }
def LanesSetUptoCardSaid : Prop := Claim7.holds Tryd.pinned (.plain (OpenSpec.upto lanesSetSpec)) lanesSetUptoCard

/-- THE SECOND FORM's CARD OF 'jacquardlaw06.LanesBits'. -/
def lanesBitsUptoCard : Claim7 := { stood := { row := lanesBitsUptoRow, standIns := [], harness := (true, "50ea534d770c8cfc81d586210a578b6d85cee496650c1b3e9dbfd250a1c6ca86"), looks := false }, kinds := [], alts := [], laidByText := true, laidKinds := [.data, .data], laidTests := true, laidLooks := .later }
def LanesBitsUptoCardSaid : Prop := Claim7.holds Tryd.pinned (.plain (OpenSpec.upto lanesBitsSpec)) lanesBitsUptoCard

/-- THE SECOND FORM's CARD OF 'jacquardlaw06.LanesSelects'. -/
def lanesSelectsUptoCard : Claim7 := { stood := { row := lanesSelectsUptoRow, standIns := [], harness := (true, "50ea534d770c8cfc81d586210a578b6d85cee496650c1b3e9dbfd250a1c6ca86"), looks := false }, kinds := [], alts := [], laidByText := true, laidKinds := [.data, .data], laidTests := true, laidLooks := .later }
def LanesSelectsUptoCardSaid : Prop := Claim7.holds Tryd.pinned (.plain (OpenSpec.upto lanesSelectsSpec)) lanesSelectsUptoCard

/-- THE SECOND FORM's CARD OF 'jacquardlaw06.LanesBytes'. -/
def lanesBytesUptoCard : Claim7 := { stood := { row := lanesBytesUptoRow, standIns := [], harness := (true, "50ea534d770c8cfc81d586210a578b6d85cee496650c1b3e9dbfd250a1c6ca86"), looks := false }, kinds := [], alts := [], laidByText := true, laidKinds := [.data, .data], laidTests := true, laidLooks := .later }
def LanesBytesUptoCardSaid : Prop := Claim7.holds Tryd.pinned (.plain (OpenSpec.upto lanesBytesSpec)) lanesBytesUptoCard

/-- THE SECOND FORM's CARD OF 'jacquardlaw06.LanesLists'. -/
def lanesListsUptoCard : Claim7 := { stood := { row := lanesListsUptoRow, standIns := [], harness := (true, "50ea534d770c8cfc81d586210a578b6d85cee496650c1b3e9dbfd250a1c6ca86"), looks := false }, kinds := [], alts := [], laidByText := true, laidKinds := [.data, .data], laidTests := true, laidLooks := .later }
def LanesListsUptoCardSaid : Prop := Claim7.holds Tryd.pinned (.plain (OpenSpec.upto lanesListsSpec)) lanesListsUptoCard

/-- THE SECOND FORM's CARD OF 'jacquardlaw06.LanesFresh'. -/
def lanesFreshUptoCard : Claim7 := { stood := { row := lanesFreshUptoRow, standIns := [], harness := (true, "50ea534d770c8cfc81d586210a578b6d85cee496650c1b3e9dbfd250a1c6ca86"), looks := false }, kinds := [], alts := [], laidByText := true, laidKinds := [.data, .data], laidTests := true, laidLooks := .later }
def LanesFreshUptoCardSaid : Prop := Claim7.holds Tryd.pinned (.plain (OpenSpec.upto lanesFreshSpec)) lanesFreshUptoCard

/-- THE SECOND FORM's CARD OF 'jacquardlaw06.LanesMoves'. -/
def lanesMovesUptoCard : Claim7 := { stood := { row := lanesMovesUptoRow, standIns := [], harness := (true, "50ea534d770c8cfc81d586210a578b6d85cee496650c1b3e9dbfd250a1c6ca86"), looks := false }, kinds := [], alts := [], laidByText := true, laidKinds := [.data, .data], laidTests := true, laidLooks := .later }
def LanesMovesUptoCardSaid : Prop := Claim7.holds Tryd.pinned (.plain (OpenSpec.upto lanesMovesSpec)) lanesMovesUptoCard

/-- THE SECOND FORM's CARD OF 'jacquardlaw06.LanesShuffles'. -/
def lanesShufflesUptoCard : Claim7 := { stood := { row := lanesShufflesUptoRow, standIns := [], harness := (true, "50ea534d770c8cfc81d586210a578b6d85cee496650c1b3e9dbfd250a1c6ca86"), looks := false }, kinds := [], alts := [], laidByText := true, laidKinds := [.data, .data], laidTests := true, laidLooks := .later }
def LanesShufflesUptoCardSaid : Prop := Claim7.holds Tryd.pinned (.plain (OpenSpec.upto lanesShufflesSpec)) lanesShufflesUptoCard

/-- THE SECOND FORM's CARD OF 'jacquardlaw06.LanesBack'. -/
def lanesBackUptoCard : Claim7 := { stood := { row := lanesBackUptoRow, standIns := [], harness := (true, "50ea534d770c8cfc81d586210a578b6d85cee496650c1b3e9dbfd250a1c6ca86"), looks := false }, kinds := [], alts := [], laidByText := true, laidKinds := [.data, .data], laidTests := true, laidLooks := .later }
def LanesBackUptoCardSaid : Prop := Claim7.holds Tryd.pinned (.plain (OpenSpec.upto lanesBackSpec)) lanesBackUptoCard
end Rows
end Go.Proofs.YtlcgkcnknjflpaaDoor

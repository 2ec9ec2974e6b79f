/-
  DERIVED. GIVEN WITH THE SEED: THE CARDS: each row of YtakonchpkchfhaaDoorRows.lean that lists a variable, with what it lists TIED to the program's text (the seventh form; the later family's looks); each row that meets fmt, with fmt's text TOLD by the authors' own Lean function (tested against real Go, not proved from fmt's source: count such statements apart). THE CARD IS WHAT COUNTS. Prove the row's statement (the work); the ties are given (YtakonchpkchfhaaDoorTie.lean); close each card by the builder's one call (the guide's Derived/Test/ToyasCard.lean, 'card_holds'). Laid BY PROGRAM, IN A SANDBOX (cutbox-door.mjs). By AI agents, Wed Nov 11 2026. No macro, syntax, notation, axiom, sorry.
-/
import Derived.Test.YtakonchpkchfhaaDoorRows
import GoSem.ClaimSeven
namespace Go.Proofs.YtakonchpkchfhaaDoor
namespace Rows

/-- THE TIED CARD OF 'jacquardlaw03.IntsTwo'. -/
def intsTwoCard : Claim7 := { stood := { row := intsTwoRow, standIns := [], harness := (true, "47245fa915dfebe7f26fed2fc3b09fe84bb547fd18b756b5389db3167ff8c1f7"), looks := false }, kinds := [], alts := [], laidByText := true, laidKinds := [.data, .data], laidTests := true, laidLooks := .later }
def IntsTwoCardSaid : Prop := Claim7.holds Tryd.pinned (.plain (OpenSpec.ofChange intsTwoSpec)) intsTwoCard

/-- THE TIED CARD OF 'jacquardlaw03.IntsOne'. -/
def intsOneCard : Claim7 := { stood := { row := intsOneRow, standIns := [], harness := (true, "47245fa915dfebe7f26fed2fc3b09fe84bb547fd18b756b5389db3167ff8c1f7"), looks := false }, kinds := [], alts := [], laidByText := true, laidKinds := [.data, .data], laidTests := true, laidLooks := .later }
def IntsOneCardSaid : Prop := Claim7.holds Tryd.pinned (.plain (OpenSpec.ofChange intsOneSpec)) intsOneCard

/-- THE TIED CARD OF 'jacquardlaw03.IntsRing'. -/
def intsRingCard : Claim7 := { stood := { row := intsRingRow, standIns := [], harness := (true, "47245fa915dfebe7f26fed2fc3b09fe84bb547fd18b756b5389db3167ff8c1f7"), looks := false }, kinds := [], alts := [], laidByText := true, laidKinds := [.data, .data], laidTests := true, laidLooks := .later }
def IntsRingCardSaid : Prop := Claim7.holds Tryd.pinned (.plain (OpenSpec.ofChange intsRingSpec)) intsRingCard

/-- THE TIED CARD OF 'jacquardlaw03.IntsDivides'. -/
def intsDividesCard : Claim7 := { stood := { row := intsDividesRow, standIns := [], harness := (true, "47245fa915dfebe7f26fed2fc3b09fe84bb547fd18b756b5389db3167ff8c1f7"), looks := false }, kinds := [], alts := [], laidByText := true, laidKinds := [.data, .data], laidTests := true, laidLooks := .later }
def IntsDividesCardSaid : Prop := Claim7.holds Tryd.pinned (.plain (OpenSpec.ofChange intsDividesSpec)) intsDividesCard

/-- THE TIED CARD OF 'jacquardlaw03.IntsTurns'. -/
def intsTurnsCard : Claim7 := { stood := { row := intsTurnsRow, standIns := [], harness := (true, "47245fa915dfebe7f26fed2fc3b09fe84bb547fd18b756b5389db3167ff8c1f7"), looks := false }, kinds := [], alts := [], laidByText := true, laidKinds := [.data, .data], laidTests := true, laidLooks := .later }
def IntsTurnsCardSaid : Prop := Claim7.holds Tryd.pinned (.plain (OpenSpec.ofChange intsTurnsSpec)) intsTurnsCard

/-- THE TIED CARD OF 'jacquardlaw03.IntsBits'. -/
def intsBitsCard : Claim7 := { stood := { row := intsBitsRow, standIns := [], harness := (true, "47245fa915dfebe7f26fed2fc3b09fe84bb547fd18b756b5389db3167ff8c1f7"), looks := false }, kinds := [], alts := [], laidByText := true, laidKinds := [.data, .data], laidTests := true, laidLooks := .later }
def IntsBitsCardSaid : Prop := Claim7.holds Tryd.pinned (.plain (OpenSpec.ofChange intsBitsSpec)) intsBitsCard

/-- THE TIED CARD OF 'jacquardlaw03.IntsWidths'. -/
def intsWidthsCard : Claim7 := { stood := { row := intsWidthsRow, standIns := [], harness := (true, "47245fa915dfebe7f26fed2fc3b09fe84bb547fd18b756b5389db3167ff8c1f7"), looks := false }, kinds := [], alts := [], laidByText := true, laidKinds := [.data, .data], laidTests := true, laidLooks := .later }
def IntsWidthsCardSaid : Prop := Claim7.holds Tryd.pinned (.plain (OpenSpec.ofChange intsWidthsSpec)) intsWidthsCard

/-- THE TIED CARD OF 'jacquardlaw03.IntsBack'. -/
def intsBackCard : Claim7 := { stood := { row := intsBackRow, standIns := [], harness := (true, "47245fa915dfebe7f26fed2fc3b09fe84bb547fd18b756b5389db3167ff8c1f7"), looks := false }, kinds := [], alts := [], laidByText := true, laidKinds := [.data, .data], laidTests := true, laidLooks := .later }
def IntsBackCardSaid : Prop := Claim7.holds Tryd.pinned (.plain (OpenSpec.ofChange intsBackSpec)) intsBackCard

/-- THE TIED CARD OF 'jacquardlaw03.IntsThan'. -/
def intsThanCard : Claim7 := { stood := { row := intsThanRow, standIns := [], harness := (true, "47245fa915dfebe7f26fed2fc3b09fe84bb547fd18b756b5389db3167ff8c1f7"), looks := false }, kinds := [], alts := [], laidByText := true, laidKinds := [.data, .data], laidTests := true, laidLooks := .later }
def IntsThanCardSaid : Prop := Claim7.holds Tryd.pinned (.plain (OpenSpec.ofChange intsThanSpec)) intsThanCard

/-- THE TIED CARD OF 'jacquardlaw03.IntsHeld'. -/
def intsHeldCard : Claim7 := { stood := { row := intsHeldRow, standIns := [], harness := (true, "47245fa915dfebe7f26fed2fc3b09fe84bb547fd18b756b5389db3167ff8c1f7"), looks := false }, kinds := [], alts := [], laidByText := true, laidKinds := [.data, .data], laidTests := true, laidLooks := .later }
def IntsHeldCardSaid : Prop := Claim7.holds Tryd.pinned (.plain (OpenSpec.ofChange intsHeldSpec)) intsHeldCard

/-- THE SECOND FORM's CARD OF 'jacquardlaw03.IntsTwo'. -/
def intsTwoUptoCard : Claim7 := { stood := { row := intsTwoUptoRow, standIns := [], harness := (true, "47245fa915dfebe7f26fed2fc3b09fe84bb547fd18b756b5389db3167ff8c1f7"), looks := false }, kinds := [], alts := [], laidByText := true, laidKinds := [.data, .data], laidTests := true, laidLooks := .later }
def IntsTwoUptoCardSaid : Prop := Claim7.holds Tryd.pinned (.plain (OpenSpec.upto intsTwoSpec)) intsTwoUptoCard

/-- THE SECOND FORM's CARD OF 'jacquardlaw03.IntsOne'. -/
def intsOneUptoCard : Claim7 := { stood := { row := intsOneUptoRow, standIns := [], harness := (true, "47245fa915dfebe7f26fed2fc3b09fe84bb547fd18b756b5389db3167ff8c1f7"), looks := false }, kinds := [], alts := [], laidByText := true, laidKinds := [.data, .data], laidTests := true, laidLooks := .later }
def IntsOneUptoCardSaid : Prop := Claim7.holds Tryd.pinned (.plain (OpenSpec.upto intsOneSpec)) intsOneUptoCard

/-- THE SECOND FORM's CARD OF 'jacquardlaw03.IntsRing'. -/
def intsRingUptoCard : Claim7 := { stood := { row := intsRingUptoRow, standIns := [], harness := (true, "47245fa915dfebe7f26fed2fc3b09fe84bb547fd18b756b5389db3167ff8c1f7"), looks := false }, kinds := [], alts := [], laidByText := true, laidKinds := [.data, .data], laidTests := true, laidLooks := .later }
def IntsRingUptoCardSaid : Prop := Claim7.holds Tryd.pinned (.plain (OpenSpec.upto intsRingSpec)) intsRingUptoCard

/-- THE SECOND FORM's CARD OF 'jacquardlaw03.IntsDivides'. -/
def intsDividesUptoCard : Claim7 := { stood := { row := intsDividesUptoRow, standIns := [], harness := (true, "47245fa915dfebe7f26fed2fc3b09fe84bb547fd18b756b5389db3167ff8c1f7"), looks := false }, kinds := [], alts := [], laidByText := true, laidKinds := [.data, .data], laidTests := true, laidLooks := .later }
def IntsDividesUptoCardSaid : Prop := Claim7.holds Tryd.pinned (.plain (OpenSpec.upto intsDividesSpec)) intsDividesUptoCard

/-- THE SECOND FORM's CARD OF 'jacquardlaw03.IntsTurns'. -/
def intsTurnsUptoCard : Claim7 := { stood := { row := intsTurnsUptoRow, standIns := [], harness := (true, "47245fa915dfebe7f26fed2fc3b09fe84bb547fd18b756b5389db3167ff8c1f7"), looks := false }, kinds := [], alts := [], laidByText := true, laidKinds := [.data, .data], laidTests := true, laidLooks := .later }
def IntsTurnsUptoCardSaid : Prop := Claim7.holds Tryd.pinned (.plain (OpenSpec.upto intsTurnsSpec)) intsTurnsUptoCard

/-- THE SECOND FORM's CARD OF 'jacquardlaw03.IntsBits'. -/
def intsBitsUptoCard : Claim7 := { stood := { row := intsBitsUptoRow, standIns := [], harness := (true, "47245fa915dfebe7f26fed2fc3b09fe84bb547fd18b756b5389db3167ff8c1f7"), looks := false }, kinds := [], alts := [], laidByText := true, laidKinds := [.data, .data], laidTests := true, laidLooks := .later }
def IntsBitsUptoCardSaid : Prop := Claim7.holds Tryd.pinned (.plain (OpenSpec.upto intsBitsSpec)) intsBitsUptoCard

/-- THE SECOND FORM's CARD OF 'jacquardlaw03.IntsWidths'. -/
def intsWidthsUptoCard : Claim7 := { stood := { row := intsWidthsUptoRow, standIns := [], harness := (true, "47245fa915dfebe7f26fed2fc3b09fe84bb547fd18b756b5389db3167ff8c1f7"), looks := false }, kinds := [], alts := [], laidByText := true, laidKinds := [.data, .data], laidTests := true, laidLooks := .later }
def IntsWidthsUptoCardSaid : Prop := Claim7.holds Tryd.pinned (.plain (OpenSpec.upto intsWidthsSpec)) intsWidthsUptoCard

/-- THE SECOND FORM's CARD OF 'jacquardlaw03.IntsBack'. -/
def intsBackUptoCard : Claim7 := { stood := { row := intsBackUptoRow, standIns := [], harness := (true, "47245fa915dfebe7f26fed2fc3b09fe84bb547fd18b756b5389db3167ff8c1f7"), looks := false }, kinds := [], alts := [], laidByText := true, laidKinds := [.data, .data], laidTests := true, laidLooks := .later }
def IntsBackUptoCardSaid : Prop := Claim7.holds Tryd.pinned (.plain (OpenSpec.upto intsBackSpec)) intsBackUptoCard

/-- THE SECOND FORM's CARD OF 'jacquardlaw03.IntsThan'. -/
def intsThanUptoCard : Claim7 := { stood := { row := intsThanUptoRow, standIns := [], harness := (true, "47245fa915dfebe7f26fed2fc3b09fe84bb547fd18b756b5389db3167ff8c1f7"), looks := false }, kinds := [], alts := [], laidByText := true, laidKinds := [.data, .data], laidTests := true, laidLooks := .later }
def IntsThanUptoCardSaid : Prop := Claim7.holds Tryd.pinned (.plain (OpenSpec.upto intsThanSpec)) intsThanUptoCard

/-- THE SECOND FORM's CARD OF 'jacquardlaw03.IntsHeld'. -/
def intsHeldUptoCard : Claim7 := { stood := { row := intsHeldUptoRow, standIns := [], harness := (true, "47245fa915dfebe7f26fed2fc3b09fe84bb547fd18b756b5389db3167ff8c1f7"), looks := false }, kinds := [], alts := [], laidByText := true, laidKinds := [.data, .data], laidTests := true, laidLooks := .later }
def IntsHeldUptoCardSaid : Prop := Claim7.holds Tryd.pinned (.plain (OpenSpec.upto intsHeldSpec)) intsHeldUptoCard
end Rows
end Go.Proofs.YtakonchpkchfhaaDoor

/-
  DERIVED. GIVEN WITH THE SEED: THE CARDS: each row of YtnbafdmlfpmfkaaGreatDoorRows.lean that lists a variable, with what it lists TIED to the program's text (the seventh form; the later family's looks); each row that meets fmt, with fmt's text TOLD by the authors' own Lean function (tested against real Go, not proved from fmt's source: count such statements apart). THE CARD IS WHAT COUNTS. Prove the row's statement (the work); the ties are given (YtnbafdmlfpmfkaaGreatDoorTie.lean); close each card by the builder's one call (the guide's Derived/Test/ToyasCard.lean, 'card_holds'). Laid BY PROGRAM, IN A SANDBOX (cutbox-door.mjs). By AI agents, Wed Nov 11 2026. No macro, syntax, notation, axiom, sorry.
-/
import Derived.Test.YtnbafdmlfpmfkaaGreatDoorRows
import GoSem.ClaimSeven
namespace Go.Proofs.YtnbafdmlfpmfkaaGreatDoor
namespace Rows

/-- THE TIED CARD OF 'jacquardlaw23.PlainLoads'. -/
def plainLoadsCard : Claim7 := { stood := { row := plainLoadsRow, standIns := [], harness := (true, "8a0ec0e2d0c8395f9c70730a87ba2427364a143c9bc067253e316568675d628e"), looks := false }, kinds := [], alts := [], laidByText := true, laidKinds := [.data, .data, .data, .listed, .data, .data, .data, .data, .data, .data, .data, .data, .pinned], laidTests := true, laidLooks := .later }
def PlainLoadsCardSaid : Prop := Claim7.holds Tryz.pinned (.plain (OpenSpec.ofChange plainLoadsSpec)) plainLoadsCard

/-- THE TIED CARD OF 'jacquardlaw23.PlainBack'. -/
def plainBackCard : Claim7 := { stood := { row := plainBackRow, standIns := [], harness := (true, "8a0ec0e2d0c8395f9c70730a87ba2427364a143c9bc067253e316568675d628e"), looks := false }, kinds := [], alts := [], laidByText := true, laidKinds := [.data, .data, .data, .listed, .data, .data, .data, .data, .data, .data, .data, .data, .pinned], laidTests := true, laidLooks := .later }
def PlainBackCardSaid : Prop := Claim7.holds Tryz.pinned (.plain (OpenSpec.ofChange plainBackSpec)) plainBackCard

/-- THE TIED CARD OF 'jacquardlaw23.PlainDoes'. -/
def plainDoesCard : Claim7 := { stood := { row := plainDoesRow, standIns := [], harness := (true, "8a0ec0e2d0c8395f9c70730a87ba2427364a143c9bc067253e316568675d628e"), looks := false }, kinds := [], alts := [], laidByText := true, laidKinds := [.data, .data, .data, .listed, .data, .data, .data, .data, .data, .data, .data, .data, .pinned], laidTests := true, laidLooks := .later }
def PlainDoesCardSaid : Prop := Claim7.holds Tryz.pinned (.plain (OpenSpec.ofChange plainDoesSpec)) plainDoesCard

/-- THE TIED CARD OF 'jacquardlaw23.PlainEnds'. -/
def plainEndsCard : Claim7 := { stood := { row := plainEndsRow, standIns := [], harness := (true, "8a0ec0e2d0c8395f9c70730a87ba2427364a143c9bc067253e316568675d628e"), looks := false }, kinds := [], alts := [], laidByText := true, laidKinds := [.data, .data, .data, .listed, .data, .data, .data, .data, .data, .data, .data, .data, .pinned], laidTests := true, laidLooks := .later }
def PlainEndsCardSaid : Prop := Claim7.holds Tryz.pinned (.plain (OpenSpec.ofChange plainEndsSpec)) plainEndsCard

/-- THE TIED CARD OF 'jacquardlaw23.PlainFresh'. -/
def plainFreshCard : Claim7 := { stood := { row := plainFreshRow, standIns := [], harness := (true, "8a0ec0e2d0c8395f9c70730a87ba2427364a143c9bc067253e316568675d628e"), looks := false }, kinds := [], alts := [], laidByText := true, laidKinds := [.data, .data, .data, .listed, .data, .data, .data, .data, .data, .data, .data, .data, .pinned], laidTests := true, laidLooks := .later }
def PlainFreshCardSaid : Prop := Claim7.holds Tryz.pinned (.plain (OpenSpec.ofChange plainFreshSpec)) plainFreshCard

/-- THE TIED CARD OF 'jacquardlaw23.PlainVecs'. -/
def plainVecsCard : Claim7 := { stood := { row := plainVecsRow, standIns := [], harness := (true, "8a0ec0e2d0c8395f9c70730a87ba2427364a143c9bc067253e316568675d628e"), looks := false }, kinds := [], alts := [], laidByText := true, laidKinds := [.data, .data, .data, .listed, .data, .data, .data, .data, .data, .data, .data, .data, .pinned], laidTests := true, laidLooks := .later }
def PlainVecsCardSaid : Prop := Claim7.holds Tryz.pinned (.plain (OpenSpec.ofChange plainVecsSpec)) plainVecsCard

/-- THE TIED CARD OF 'jacquardlaw23.PlainStores'. -/
def plainStoresCard : Claim7 := { stood := { row := plainStoresRow, standIns := [], harness := (true, "8a0ec0e2d0c8395f9c70730a87ba2427364a143c9bc067253e316568675d628e"), looks := false }, kinds := [], alts := [], laidByText := true, laidKinds := [.data, .data, .data, .listed, .data, .data, .data, .data, .data, .data, .data, .data, .pinned], laidTests := true, laidLooks := .later }
def PlainStoresCardSaid : Prop := Claim7.holds Tryz.pinned (.plain (OpenSpec.ofChange plainStoresSpec)) plainStoresCard

/-- THE SECOND FORM's CARD OF 'jacquardlaw23.PlainLoads'. -/
def plainLoadsUptoCard : Claim7 := { stood := { row := plainLoadsUptoRow, standIns := [], harness := (true, "8a0ec0e2d0c8395f9c70730a87ba2427364a143c9bc067253e316568675d628e"), looks := false }, kinds := [], alts := [], laidByText := true, laidKinds := [.data, .data, .data, .listed, .data, .data, .data, .data, .data, .data, .data, .data, .pinned], laidTests := true, laidLooks := .later }
def PlainLoadsUptoCardSaid : Prop := Claim7.holds Tryz.pinned (.plain (OpenSpec.upto plainLoadsSpec)) plainLoadsUptoCard

/-- THE SECOND FORM's CARD OF 'jacquardlaw23.PlainBack'. -/
def plainBackUptoCard : Claim7 := { stood := { row := plainBackUptoRow, standIns := [], harness := (true, "8a0ec0e2d0c8395f9c70730a87ba2427364a143c9bc067253e316568675d628e"), looks := false }, kinds := [], alts := [], laidByText := true, laidKinds := [.data, .data, .data, .listed, .data, .data, .data, .data, .data, .data, .data, .data, .pinned], laidTests := true, laidLooks := .later }
def PlainBackUptoCardSaid : Prop := Claim7.holds Tryz.pinned (.plain (OpenSpec.upto plainBackSpec)) plainBackUptoCard

/-- THE SECOND FORM's CARD OF 'jacquardlaw23.PlainDoes'. -/
def plainDoesUptoCard : Claim7 := { stood := { row := plainDoesUptoRow, standIns := [], harness := (true, "8a0ec0e2d0c8395f9c70730a87ba2427364a143c9bc067253e316568675d628e"), looks := false }, kinds := [], alts := [], laidByText := true, laidKinds := [.data, .data, .data, .listed, .data, .data, .data, .data, .data, .data, .data, .data, .pinned], laidTests := true, laidLooks := .later }
def PlainDoesUptoCardSaid : Prop := Claim7.holds Tryz.pinned (.plain (OpenSpec.upto plainDoesSpec)) plainDoesUptoCard

/-- THE SECOND FORM's CARD OF 'jacquardlaw23.PlainEnds'. -/
def plainEndsUptoCard : Claim7 := { stood := { row := plainEndsUptoRow, standIns := [], harness := (true, "8a0ec0e2d0c8395f9c70730a87ba2427364a143c9bc067253e316568675d628e"), looks := false }, kinds := [], alts := [], laidByText := true, laidKinds := [.data, .data, .data, .listed, .data, .data, .data, .data, .data, .data, .data, .data, .pinned], laidTests := true, laidLooks := .later }
def PlainEndsUptoCardSaid : Prop := Claim7.holds Tryz.pinned (.plain (OpenSpec.upto plainEndsSpec)) plainEndsUptoCard

/-- THE SECOND FORM's CARD OF 'jacquardlaw23.PlainFresh'. -/
def plainFreshUptoCard : Claim7 := { stood := { row := plainFreshUptoRow, standIns := [], harness := (true, "8a0ec0e2d0c8395f9c70730a87ba2427364a143c9bc067253e316568675d628e"), looks := false }, kinds := [], alts := [], laidByText := true, laidKinds := [.data, .data, .data, .listed, .data, .data, .data, .data, .data, .data, .data, .data, .pinned], laidTests := true, laidLooks := .later }
def PlainFreshUptoCardSaid : Prop := Claim7.holds Tryz.pinned (.plain (OpenSpec.upto plainFreshSpec)) plainFreshUptoCard

/-- THE SECOND FORM's CARD OF 'jacquardlaw23.PlainVecs'. -/
def plainVecsUptoCard : Claim7 := { stood := { row := plainVecsUptoRow, standIns := [], harness := (true, "8a0ec0e2d0c8395f9c70730a87ba2427364a143c9bc067253e316568675d628e"), looks := false }, kinds := [], alts := [], laidByText := true, laidKinds := [.data, .data, .data, .listed, .data, .data, .data, .data, .data, .data, .data, .data, .pinned], laidTests := true, laidLooks := .later }
def PlainVecsUptoCardSaid : Prop := Claim7.holds Tryz.pinned (.plain (OpenSpec.upto plainVecsSpec)) plainVecsUptoCard

/-- THE SECOND FORM's CARD OF 'jacquardlaw23.PlainStores'. -/
def plainStoresUptoCard : Claim7 := { stood := { row := plainStoresUptoRow, standIns := [], harness := (true, "8a0ec0e2d0c8395f9c70730a87ba2427364a143c9bc067253e316568675d628e"), looks := false }, kinds := [], alts := [], laidByText := true, laidKinds := [.data, .data, .data, .listed, .data, .data, .data, .data, .data, .data, .data, .data, .pinned], laidTests := true, laidLooks := .later }
def PlainStoresUptoCardSaid : Prop := Claim7.holds Tryz.pinned (.plain (OpenSpec.upto plainStoresSpec)) plainStoresUptoCard
end Rows
end Go.Proofs.YtnbafdmlfpmfkaaGreatDoor

/-
  DERIVED. GIVEN WITH THE SEED: THE CARDS: each row of YtlicpmhlphhabaaDoorRows.lean that lists a variable, with what it lists TIED to the program's text (the seventh form; the later family's looks); each row that meets fmt, with fmt's text TOLD by the authors' own Lean function (tested against real Go, not proved from fmt's source: count such statements apart). THE CARD IS WHAT COUNTS. Prove the row's statement (the work); the ties are given (YtlicpmhlphhabaaDoorTie.lean); close each card by the builder's one call (the guide's Derived/Test/ToyasCard.lean, 'card_holds'). Laid BY PROGRAM, IN A SANDBOX (cutbox-door.mjs). By AI agents, Wed Nov 11 2026. No macro, syntax, notation, axiom, sorry.
-/
import Derived.Test.YtlicpmhlphhabaaDoorRows
import GoSem.ClaimSeven
namespace Go.Proofs.YtlicpmhlphhabaaDoor
namespace Rows

/-- THE TIED CARD OF 'jacquardlaw07.VintsTwo'. -/
def vintsTwoCard : Claim7 := { stood := { row := vintsTwoRow, standIns := [], harness := (true, "90bfb9091962d32cfb84b45d5e24cb5b4bf6a9b0a558cfb03f8975f9e19d4995"), looks := false }, kinds := [], alts := [], laidByText := true, laidKinds := [.data, .data], laidTests := true, laidLooks := .later }
def VintsTwoCardSaid : Prop := Claim7.holds Tryd.pinned (.plain (OpenSpec.ofChange vintsTwoSpec)) vintsTwoCard

/-- THE TIED CARD OF 'jacquardlaw07.VintsLane'. -/
def vintsLaneCard : Claim7 := { stood := { row := vintsLaneRow, standIns := [], harness := (true, "90bfb9091962d32cfb84b45d5e24cb5b4bf6a9b0a558cfb03f8975f9e19d4995"), looks := false }, kinds := [], alts := [], laidByText := true, laidKinds := [.data, .data], laidTests := true, laidLooks := .later }
def VintsLaneCardSaid : Prop := Claim7.holds Tryd.pinned (.plain (OpenSpec.ofChange vintsLaneSpec)) vintsLaneCard

/-- THE TIED CARD OF 'jacquardlaw07.VintsOne'. -/
def vintsOneCard : Claim7 := { stood := { row := vintsOneRow, standIns := [], harness := (true, "90bfb9091962d32cfb84b45d5e24cb5b4bf6a9b0a558cfb03f8975f9e19d4995"), looks := false }, kinds := [], alts := [], laidByText := true, laidKinds := [.data, .data], laidTests := true, laidLooks := .later }
def VintsOneCardSaid : Prop := Claim7.holds Tryd.pinned (.plain (OpenSpec.ofChange vintsOneSpec)) vintsOneCard

/-- THE TIED CARD OF 'jacquardlaw07.VintsSums'. -/
def vintsSumsCard : Claim7 := { stood := { row := vintsSumsRow, standIns := [], harness := (true, "90bfb9091962d32cfb84b45d5e24cb5b4bf6a9b0a558cfb03f8975f9e19d4995"), looks := false }, kinds := [], alts := [], laidByText := true, laidKinds := [.data, .data], laidTests := true, laidLooks := .later }
def VintsSumsCardSaid : Prop := Claim7.holds Tryd.pinned (.plain (OpenSpec.ofChange vintsSumsSpec)) vintsSumsCard

/-- THE TIED CARD OF 'jacquardlaw07.VintsThan'. -/
def vintsThanCard : Claim7 := { stood := { row := vintsThanRow, standIns := [], harness := (true, "90bfb9091962d32cfb84b45d5e24cb5b4bf6a9b0a558cfb03f8975f9e19d4995"), looks := false }, kinds := [], alts := [], laidByText := true, laidKinds := [.data, .data], laidTests := true, laidLooks := .later }
def VintsThanCardSaid : Prop := Claim7.holds Tryd.pinned (.plain (OpenSpec.ofChange vintsThanSpec)) vintsThanCard

/-- THE TIED CARD OF 'jacquardlaw07.VintsHalves'. -/
def vintsHalvesCard : Claim7 := { stood := { row := vintsHalvesRow, standIns := [], harness := (true, "90bfb9091962d32cfb84b45d5e24cb5b4bf6a9b0a558cfb03f8975f9e19d4995"), looks := false }, kinds := [], alts := [], laidByText := true, laidKinds := [.data, .data], laidTests := true, laidLooks := .later }
def VintsHalvesCardSaid : Prop := Claim7.holds Tryd.pinned (.plain (OpenSpec.ofChange vintsHalvesSpec)) vintsHalvesCard

/-- THE TIED CARD OF 'jacquardlaw07.VintsBack'. -/
def vintsBackCard : Claim7 := { stood := { row := vintsBackRow, standIns := [], harness := (true, "90bfb9091962d32cfb84b45d5e24cb5b4bf6a9b0a558cfb03f8975f9e19d4995"), looks := false }, kinds := [], alts := [], laidByText := true, laidKinds := [.data, .data], laidTests := true, laidLooks := .later }
def VintsBackCardSaid : Prop := Claim7.holds Tryd.pinned (.plain (OpenSpec.ofChange vintsBackSpec)) vintsBackCard

/-- THE TIED CARD OF 'jacquardlaw07.VintsMasks'. -/
def vintsMasksCard : Claim7 := { stood := { row := vintsMasksRow, standIns := [], harness := (true, "90bfb9091962d32cfb84b45d5e24cb5b4bf6a9b0a558cfb03f8975f9e19d4995"), looks := false }, kinds := [], alts := [], laidByText := true, laidKinds := [.data, .data], laidTests := true, laidLooks := .later }
def VintsMasksCardSaid : Prop := Claim7.holds Tryd.pinned (.plain (OpenSpec.ofChange vintsMasksSpec)) vintsMasksCard

/-- THE TIED CARD OF 'jacquardlaw07.VintsDot'. -/
def vintsDotCard : Claim7 := { stood := { row := vintsDotRow, standIns := [], harness := (true, "90bfb9091962d32cfb84b45d5e24cb5b4bf6a9b0a558cfb03f8975f9e19d4995"), looks := false }, kinds := [], alts := [], laidByText := true, laidKinds := [.data, .data], laidTests := true, laidLooks := .later }
def VintsDotCardSaid : Prop := Claim7.holds Tryd.pinned (.plain (OpenSpec.ofChange vintsDotSpec)) vintsDotCard

/-- THE TIED CARD OF 'jacquardlaw07.VintsTimes'. -/
def vintsTimesCard : Claim7 := { stood := { row := vintsTimesRow, standIns := [], harness := (true, "90bfb9091962d32cfb84b45d5e24cb5b4bf6a9b0a558cfb03f8975f9e19d4995"), looks := false }, kinds := [], alts := [], laidByText := true, laidKinds := [.data, .data], laidTests := true, laidLooks := .later }
def VintsTimesCardSaid : Prop := Claim7.holds Tryd.pinned (.plain (OpenSpec.ofChange vintsTimesSpec)) vintsTimesCard

/-- THE SECOND FORM's CARD OF 'jacquardlaw07.VintsTwo'. -/
def vintsTwoUptoCard : Claim7 := { stood := { row := vintsTwoUptoRow, standIns := [], harness := (true, "90bfb9091962d32cfb84b45d5e24cb5b4bf6a9b0a558cfb03f8975f9e19d4995"), looks := false }, kinds := [], alts := [], laidByText := true, laidKinds := [.data, .data], laidTests := true, laidLooks := .later }
def VintsTwoUptoCardSaid : Prop := Claim7.holds Tryd.pinned (.plain (OpenSpec.upto vintsTwoSpec)) vintsTwoUptoCard

/-- THE SECOND FORM's CARD OF 'jacquardlaw07.VintsLane'. -/
def vintsLaneUptoCard : Claim7 := { stood := { row := vintsLaneUptoRow, standIns := [], harness := (true, "90bfb9091962d32cfb84b45d5e24cb5b4bf6a9b0a558cfb03f8975f9e19d4995"), looks := false }, kinds := [], alts := [], laidByText := true, laidKinds := [.data, .data], laidTests := true, laidLooks := .later }
def VintsLaneUptoCardSaid : Prop := Claim7.holds Tryd.pinned (.plain (OpenSpec.upto vintsLaneSpec)) vintsLaneUptoCard

/-- THE SECOND FORM's CARD OF 'jacquardlaw07.VintsOne'. -/
def vintsOneUptoCard : Claim7 := { stood := { row := vintsOneUptoRow, standIns := [], harness := (true, "90bfb9091962d32cfb84b45d5e24cb5b4bf6a9b0a558cfb03f8975f9e19d4995"), looks := false }, kinds := [], alts := [], laidByText := true, laidKinds := [.data, .data], laidTests := true, laidLooks := .later }
def VintsOneUptoCardSaid : Prop := Claim7.holds Tryd.pinned (.plain (OpenSpec.upto vintsOneSpec)) vintsOneUptoCard

/-- THE SECOND FORM's CARD OF 'jacquardlaw07.VintsSums'. -/
def vintsSumsUptoCard : Claim7 := { stood := { row := vintsSumsUptoRow, standIns := [], harness := (true, "90bfb9091962d32cfb84b45d5e24cb5b4bf6a9b0a558cfb03f8975f9e19d4995"), looks := false }, kinds := [], alts := [], laidByText := true, laidKinds := [.data, .data], laidTests := true, laidLooks := .later }
def VintsSumsUptoCardSaid : Prop := Claim7.holds Tryd.pinned (.plain (OpenSpec.upto vintsSumsSpec)) vintsSumsUptoCard

/-- THE SECOND FORM's CARD OF 'jacquardlaw07.VintsThan'. -/
def vintsThanUptoCard : Claim7 := { stood := { row := vintsThanUptoRow, standIns := [], harness := (true, "90bfb9091962d32cfb84b45d5e24cb5b4bf6a9b0a558cfb03f8975f9e19d4995"), looks := false }, kinds := [], alts := [], laidByText := true, laidKinds := [.data, .data], laidTests := true, laidLooks := .later }
def VintsThanUptoCardSaid : Prop := Claim7.holds Tryd.pinned (.plain (OpenSpec.upto vintsThanSpec)) vintsThanUptoCard

/-- THE SECOND FORM's CARD OF 'jacquardlaw07.VintsHalves'. -/
def vintsHalvesUptoCard : Claim7 := { stood := { row := vintsHalvesUptoRow, standIns := [], harness := (true, "90bfb9091962d32cfb84b45d5e24cb5b4bf6a9b0a558cfb03f8975f9e19d4995"), looks := false }, kinds := [], alts := [], laidByText := true, laidKinds := [.data, .data], laidTests := true, laidLooks := .later }
def VintsHalvesUptoCardSaid : Prop := Claim7.holds Tryd.pinned (.plain (OpenSpec.upto vintsHalvesSpec)) vintsHalvesUptoCard

/-- THE SECOND FORM's CARD OF 'jacquardlaw07.VintsBack'. -/
def vintsBackUptoCard : Claim7 := { stood := { row := vintsBackUptoRow, standIns := [], harness := (true, "90bfb9091962d32cfb84b45d5e24cb5b4bf6a9b0a558cfb03f8975f9e19d4995"), looks := false }, kinds := [], alts := [], laidByText := true, laidKinds := [.data, .data], laidTests := true, laidLooks := .later }
def VintsBackUptoCardSaid : Prop := Claim7.holds Tryd.pinned (.plain (OpenSpec.upto vintsBackSpec)) vintsBackUptoCard

/-- THE SECOND FORM's CARD OF 'jacquardlaw07.VintsMasks'. -/
def vintsMasksUptoCard : Claim7 := { stood := { row := vintsMasksUptoRow, standIns := [], harness := (true, "90bfb9091962d32cfb84b45d5e24cb5b4bf6a9b0a558cfb03f8975f9e19d4995"), looks := false }, kinds := [], alts := [], laidByText := true, laidKinds := [.data, .data], laidTests := true, laidLooks := .later }
def VintsMasksUptoCardSaid : Prop := Claim7.holds Tryd.pinned (.plain (OpenSpec.upto vintsMasksSpec)) vintsMasksUptoCard

/-- THE SECOND FORM's CARD OF 'jacquardlaw07.VintsDot'. -/
def vintsDotUptoCard : Claim7 := { stood := { row := vintsDotUptoRow, standIns := [], harness := (true, "90bfb9091962d32cfb84b45d5e24cb5b4bf6a9b0a558cfb03f8975f9e19d4995"), looks := false }, kinds := [], alts := [], laidByText := true, laidKinds := [.data, .data], laidTests := true, laidLooks := .later }
def VintsDotUptoCardSaid : Prop := Claim7.holds Tryd.pinned (.plain (OpenSpec.upto vintsDotSpec)) vintsDotUptoCard

/-- THE SECOND FORM's CARD OF 'jacquardlaw07.VintsTimes'. -/
def vintsTimesUptoCard : Claim7 := { stood := { row := vintsTimesUptoRow, standIns := [], harness := (true, "90bfb9091962d32cfb84b45d5e24cb5b4bf6a9b0a558cfb03f8975f9e19d4995"), looks := false }, kinds := [], alts := [], laidByText := true, laidKinds := [.data, .data], laidTests := true, laidLooks := .later }
def VintsTimesUptoCardSaid : Prop := Claim7.holds Tryd.pinned (.plain (OpenSpec.upto vintsTimesSpec)) vintsTimesUptoCard
end Rows
end Go.Proofs.YtlicpmhlphhabaaDoor

/-
  DERIVED. GIVEN WITH THE SEED: THE CARDS: each row of YtimaanpcglbnpaaDoorRows.lean that lists a variable, with what it lists TIED to the program's text (the seventh form; the later family's looks); each row that meets fmt, with fmt's text TOLD by the authors' own Lean function (tested against real Go, not proved from fmt's source: count such statements apart). THE CARD IS WHAT COUNTS. Prove the row's statement (the work); the ties are given (YtimaanpcglbnpaaDoorTie.lean); close each card by the builder's one call (the guide's Derived/Test/ToyasCard.lean, 'card_holds'). Laid BY PROGRAM, IN A SANDBOX (cutbox-door.mjs). By AI agents, Wed Nov 11 2026. No macro, syntax, notation, axiom, sorry.
-/
import Derived.Test.YtimaanpcglbnpaaDoorRows
import GoSem.ClaimSeven
namespace Go.Proofs.YtimaanpcglbnpaaDoor
namespace Rows

/-- THE TIED CARD OF 'jacquardlaw08.VfloatsTwo'. -/
def vfloatsTwoCard : Claim7 := { stood := { row := vfloatsTwoRow, standIns := [], harness := (true, "ac3ce149d828802affa243c6663a7993141ffac6c5f9ff569bc159c5855f6d6c"), looks := false }, kinds := [], alts := [], laidByText := true, laidKinds := [.data, .data], laidTests := true, laidLooks := .later }
def VfloatsTwoCardSaid : Prop := Claim7.holds Tryd.pinned (.plain (OpenSpec.ofChange vfloatsTwoSpec)) vfloatsTwoCard

/-- THE TIED CARD OF 'jacquardlaw08.VfloatsThan'. -/
def vfloatsThanCard : Claim7 := { stood := { row := vfloatsThanRow, standIns := [], harness := (true, "ac3ce149d828802affa243c6663a7993141ffac6c5f9ff569bc159c5855f6d6c"), looks := false }, kinds := [], alts := [], laidByText := true, laidKinds := [.data, .data], laidTests := true, laidLooks := .later }
def VfloatsThanCardSaid : Prop := Claim7.holds Tryd.pinned (.plain (OpenSpec.ofChange vfloatsThanSpec)) vfloatsThanCard

/-- THE TIED CARD OF 'jacquardlaw08.VfloatsWidths'. -/
def vfloatsWidthsCard : Claim7 := { stood := { row := vfloatsWidthsRow, standIns := [], harness := (true, "ac3ce149d828802affa243c6663a7993141ffac6c5f9ff569bc159c5855f6d6c"), looks := false }, kinds := [], alts := [], laidByText := true, laidKinds := [.data, .data], laidTests := true, laidLooks := .later }
def VfloatsWidthsCardSaid : Prop := Claim7.holds Tryd.pinned (.plain (OpenSpec.ofChange vfloatsWidthsSpec)) vfloatsWidthsCard

/-- THE TIED CARD OF 'jacquardlaw08.VfloatsConvs'. -/
def vfloatsConvsCard : Claim7 := { stood := { row := vfloatsConvsRow, standIns := [], harness := (true, "ac3ce149d828802affa243c6663a7993141ffac6c5f9ff569bc159c5855f6d6c"), looks := false }, kinds := [], alts := [], laidByText := true, laidKinds := [.data, .data], laidTests := true, laidLooks := .later }
def VfloatsConvsCardSaid : Prop := Claim7.holds Tryd.pinned (.plain (OpenSpec.ofChange vfloatsConvsSpec)) vfloatsConvsCard

/-- THE TIED CARD OF 'jacquardlaw08.VfloatsWhole'. -/
def vfloatsWholeCard : Claim7 := { stood := { row := vfloatsWholeRow, standIns := [], harness := (true, "ac3ce149d828802affa243c6663a7993141ffac6c5f9ff569bc159c5855f6d6c"), looks := false }, kinds := [], alts := [], laidByText := true, laidKinds := [.data, .data], laidTests := true, laidLooks := .later }
def VfloatsWholeCardSaid : Prop := Claim7.holds Tryd.pinned (.plain (OpenSpec.ofChange vfloatsWholeSpec)) vfloatsWholeCard

/-- THE TIED CARD OF 'jacquardlaw08.VfloatsOne'. -/
def vfloatsOneCard : Claim7 := { stood := { row := vfloatsOneRow, standIns := [], harness := (true, "ac3ce149d828802affa243c6663a7993141ffac6c5f9ff569bc159c5855f6d6c"), looks := false }, kinds := [], alts := [], laidByText := true, laidKinds := [.data, .data], laidTests := true, laidLooks := .later }
def VfloatsOneCardSaid : Prop := Claim7.holds Tryd.pinned (.plain (OpenSpec.ofChange vfloatsOneSpec)) vfloatsOneCard

/-- THE SECOND FORM's CARD OF 'jacquardlaw08.VfloatsTwo'. -/
def vfloatsTwoUptoCard : Claim7 := { stood := { row := vfloatsTwoUptoRow, standIns := [], harness := (true, "ac3ce149d828802affa243c6663a7993141ffac6c5f9ff569bc159c5855f6d6c"), looks := false }, kinds := [], alts := [], laidByText := true, laidKinds := [.data, .data], laidTests := true, laidLooks := .later }
def VfloatsTwoUptoCardSaid : Prop := Claim7.holds Tryd.pinned (.plain (OpenSpec.upto vfloatsTwoSpec)) vfloatsTwoUptoCard

/-- THE SECOND FORM's CARD OF 'jacquardlaw08.VfloatsThan'. -/
def vfloatsThanUptoCard : Claim7 := { stood := { row := vfloatsThanUptoRow, standIns := [], harness := (true, "ac3ce149d828802affa243c6663a7993141ffac6c5f9ff569bc159c5855f6d6c"), looks := false }, kinds := [], alts := [], laidByText := true, laidKinds := [.data, .data], laidTests := true, laidLooks := .later }
def VfloatsThanUptoCardSaid : Prop := Claim7.holds Tryd.pinned (.plain (OpenSpec.upto vfloatsThanSpec)) vfloatsThanUptoCard

/-- THE SECOND FORM's CARD OF 'jacquardlaw08.VfloatsWidths'. -/
def vfloatsWidthsUptoCard : Claim7 := { stood := { row := vfloatsWidthsUptoRow, standIns := [], harness := (true, "ac3ce149d828802affa243c6663a7993141ffac6c5f9ff569bc159c5855f6d6c"), looks := false }, kinds := [], alts := [], laidByText := true, laidKinds := [.data, .data], laidTests := true, laidLooks := .later }
def VfloatsWidthsUptoCardSaid : Prop := Claim7.holds Tryd.pinned (.plain (OpenSpec.upto vfloatsWidthsSpec)) vfloatsWidthsUptoCard

/-- THE SECOND FORM's CARD OF 'jacquardlaw08.VfloatsConvs'. -/
def vfloatsConvsUptoCard : Claim7 := { stood := { row := vfloatsConvsUptoRow, standIns := [], harness := (true, "ac3ce149d828802affa243c6663a7993141ffac6c5f9ff569bc159c5855f6d6c"), looks := false }, kinds := [], alts := [], laidByText := true, laidKinds := [.data, .data], laidTests := true, laidLooks := .later }
def VfloatsConvsUptoCardSaid : Prop := Claim7.holds Tryd.pinned (.plain (OpenSpec.upto vfloatsConvsSpec)) vfloatsConvsUptoCard

/-- THE SECOND FORM's CARD OF 'jacquardlaw08.VfloatsWhole'. -/
def vfloatsWholeUptoCard : Claim7 := { stood := { row := vfloatsWholeUptoRow, standIns := [], harness := (true, "ac3ce149d828802affa243c6663a7993141ffac6c5f9ff569bc159c5855f6d6c"), looks := false }, kinds := [], alts := [], laidByText := true, laidKinds := [.data, .data], laidTests := true, laidLooks := .later }
def VfloatsWholeUptoCardSaid : Prop := Claim7.holds Tryd.pinned (.plain (OpenSpec.upto vfloatsWholeSpec)) vfloatsWholeUptoCard

/-- THE SECOND FORM's CARD OF 'jacquardlaw08.VfloatsOne'. -/
def vfloatsOneUptoCard : Claim7 := { stood := { row := vfloatsOneUptoRow, standIns := [], harness := (true, "ac3ce149d828802affa243c6663a7993141ffac6c5f9ff569bc159c5855f6d6c"), looks := false }, kinds := [], alts := [], laidByText := true, laidKinds := [.data, .data], laidTests := true, laidLooks := .later }
def VfloatsOneUptoCardSaid : Prop := Claim7.holds Tryd.pinned (.plain (OpenSpec.upto vfloatsOneSpec)) vfloatsOneUptoCard
end Rows
end Go.Proofs.YtimaanpcglbnpaaDoor

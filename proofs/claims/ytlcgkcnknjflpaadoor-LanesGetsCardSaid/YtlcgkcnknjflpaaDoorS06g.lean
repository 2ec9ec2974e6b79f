/-
  PROVED HERE: the tied card of LanesGets, for every input: lanes are got and set as the document says, or its error. No conditions beyond the card's own.
-/
import Derived.Test.YtlcgkcnknjflpaaDoorS06f
import Derived.SevenTiedAt
set_option linter.unusedSimpArgs false
set_option linter.unusedVariables false
namespace Go.Proofs.YtlcgkcnknjflpaaDoor
open Go

theorem lanesGetsCard_holds : Rows.LanesGetsCardSaid :=
  Claim7.holds_tied_plain_at .later [] [.data, .data] true (true, "50ea534d770c8cfc81d586210a578b6d85cee496650c1b3e9dbfd250a1c6ca86") false
    lanesGets.holds (fun _ h => by cases h) (by kernel_rfl) (fun _ h => by cases h) lanesGets_row_tie rfl ⟨rfl, rfl⟩ (by kernel_rfl) rfl
    (fun f fn hf hfn => by
      obtain rfl : f = 3 := Option.some.inj ((show Tryd.prog.funcNamed "jacquard/jacquardlaw06.LanesGets" = some 3 by kernel_rfl).symm.trans hf) |>.symm
      obtain rfl : fn = Tryd.f3 := (Option.some.inj (Tryd.func3.symm.trans hfn)).symm
      exact ⟨by kernel_rfl, fun j t ht => by
        rw [Tryd.params3] at ht
        have hm : t ∈ [24, 3, 3, 22] := by simpa using Array.mem_of_getElem? ht
        have hall : ([24, 3, 3, 22].all fun u => !Tryd.prog.wantsStandIn u) = true := by kernel_rfl
        exact (show Tryd.prog.wantsStandIn t = false by simpa using List.all_eq_true.1 hall t hm)⟩)
    (by kernel_rfl)
#print axioms lanesGetsCard_holds
end Go.Proofs.YtlcgkcnknjflpaaDoor

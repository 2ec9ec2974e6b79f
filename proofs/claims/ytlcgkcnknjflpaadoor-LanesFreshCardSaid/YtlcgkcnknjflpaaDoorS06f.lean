/-
  Part of the proof; what its functions and lemmas say stands in the text.
-/
import Derived.Test.YtlcgkcnknjflpaaDoorS06e
import Derived.Test.YtlcgkcnknjflpaaDoorEv22
import Derived.Test.YtlcgkcnknjflpaaDoorRows
import Derived.Test.YtlcgkcnknjflpaaDoorTie
import Derived.Test.YtlcgkcnknjflpaaDoorCards
set_option linter.unusedSimpArgs false
set_option linter.unusedVariables false
/-!
Chapter 06: rows.
-/
namespace Go.L06
open Go.Ev Go.Proofs Go.RowKit Go.ChangeShapes Go.WideShapes Go.ChangeAt
open Go.Proofs.YtlcgkcnknjflpaaDoor (Rows.laid_jacquard_ints_widths Rows.laid_math_bits_deBruijn64tab)

theorem own : ownKnob Tryd.prog.godebug = none := by kernel_rfl
theorem laidOut : laidOutB Tryd.prog = true := by kernel_rfl
theorem gWidths : Tryd.prog.globalNamed "jacquard/ints.widths" = some 0 := by kernel_rfl
theorem tWidths : (Tryd.prog.globals[0]?).map (·.type) = some 71 := by kernel_rfl
abbrev laid2 : List (String × DataW Unit) := [("math/bits.deBruijn64tab", Rows.laid_math_bits_deBruijn64tab), ("jacquard/ints.widths", Rows.laid_jacquard_ints_widths)]

theorem glob_of_laid {W : World} (h : laidMetH Tryd.prog laid2 W) : Glob G0 W := by
  rw [MakeChecks.laidMetH_plain _ _ _ (by kernel_rfl)] at h
  obtain ⟨ps, ⟨g0, t0, cs0, f0, p0, q0, _, _, _, _, ⟨g1, t1, cs1, f1, p1, q1, hg1, ht1, hv1, hd1, _, _⟩, _⟩, _, _⟩ := h
  obtain rfl := Option.some.inj (gWidths.symm.trans hg1)
  obtain rfl := Option.some.inj (tWidths.symm.trans ht1)
  have cells := ints_of_trod (l := [8, 16, 32, 64]) Tryd.underlying71 Tryd.underlying3 (by kernel_rfl) hd1
  have at0 : ∀ j, j < 4 → W.cell? ⟨0, j, none⟩ = some (.int .i64 (([8, 16, 32, 64] : List Int).getD j 0)) := fun j hj => by
    have h1 := World.var?_cell hg1 hv1 j
    rw [h1, ← Array.getElem?_toList]
    exact cells j hj
  intro g c hgc
  simp only [G0, List.mem_cons, List.not_mem_nil, or_false, Prod.mk.injEq] at hgc
  obtain ⟨rfl, rfl⟩ := hgc
  refine ⟨?_, fun j hj => ⟨_, at0 j (by simpa [SV.len] using hj), by simp only [SV.cell, rep]⟩⟩
  have h0 := at0 0 (by decide)
  unfold World.cell? at h0
  rcases Nat.lt_or_ge 0 W.heap.size with h | h
  · exact h
  · rw [Array.getElem?_eq_none (by simpa using h)] at h0; simp at h0

theorem door_met (os : Os) (args : Array Value) : laidMetH Tryd.prog laid2 ((World.doorLaid Tryd.prog 19 os).forCall (fun _ _ => 0) ⟨#[], args, []⟩).memory :=
  laidMetH_of_parts3 (fuel := 8) (laidMet_of_run' 65 (by kernel_rfl) (by kernel_rfl)) (by kernel_rfl) (by kernel_rfl)

/-! Arguments -/
section
variable {H : Type} {enc : TypeId × Value → H} {W : World} {base b0 : Nat} {spare : Nat → Bool} {held : Bool} {r : Reach} {own : Option Nat} {v : Value} {d : DataW H} {p : List MemPlace}
theorem a_vec (hv : Value.okWide Tryd.prog W r b0 24 v) (h : DataW.Trod enc Tryd.prog W base spare held 24 v d p) : ∃ x y : BitVec 64, lies own W (vec x y) v :=
  arg_vec Tryd.underlying24 (by kernel_rfl) (by kernel_rfl) Tryd.underlying22 Tryd.underlying22 hv h
end

/-- A law that answers 'true' at these arguments. -/
noncomputable def trueS (ok : List D → Bool) : Ev.Spec := guarded fun ds => some (ok ds, .bool true)
theorem call_true {f : Nat} {ok : List D → Bool} (hs : Snd f (trueS ok)) {ds : List D} {w : World} {args : List Value} (hok : ok ds = true) (hG : Glob G0 w) (hl : lie none w ds args)
    (hcall : (callFunc f ⟨args⟩).run Tryd.prog w = .ok (.enter f ⟨args⟩) w) : Calls Tryd.prog f ⟨args⟩ w fun e w' => e = .returned (.bool true) ∧ Below w.heap.size w w' := by
  obtain ⟨d, hd, hgo⟩ := hs ds some (.bool true) (by simp [trueS, guarded, hok])
  cases hd
  rcases hgo w args hG hl with ⟨v, w', h1, _⟩ | ⟨_, h2⟩
  · rw [hcall] at h1; cases h1
  · exact Calls.mono h2 fun e w' ⟨v, he, hb, hv⟩ => by
      simp only [lies] at hv
      subst hv
      exact ⟨he, hb⟩

end Go.L06

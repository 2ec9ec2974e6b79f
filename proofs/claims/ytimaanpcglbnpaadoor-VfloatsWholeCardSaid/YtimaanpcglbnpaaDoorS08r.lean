/-
  Part of the proof; what its functions and lemmas say stands in the text.
-/
import Derived.Test.YtimaanpcglbnpaaDoorS08A
import Derived.Test.YtimaanpcglbnpaaDoorEvE
import Derived.Test.YtimaanpcglbnpaaDoorRows
import Derived.Test.YtimaanpcglbnpaaDoorTie
import Derived.Test.YtimaanpcglbnpaaDoorCards
set_option linter.unusedSimpArgs false
set_option linter.unusedVariables false
/-!
Rows.
-/
namespace Go.L08
open Go.Ev Go.Proofs Go.RowKit Go.ChangeShapes Go.WideShapes Go.ChangeAt
open Go.Proofs.YtimaanpcglbnpaaDoor (Rows.laid_jacquard_ints_widths Rows.laid_math_bits_deBruijn64tab)

theorem own : ownKnob Tryd.prog.godebug = none := by kernel_rfl
theorem laidOut : laidOutB Tryd.prog = true := by kernel_rfl
theorem gWidths : Tryd.prog.globalNamed "jacquard/ints.widths" = some 1 := by kernel_rfl
theorem tWidths : (Tryd.prog.globals[1]?).map (·.type) = some 112 := by kernel_rfl
theorem gTab : Tryd.prog.globalNamed "math/bits.deBruijn64tab" = some 2 := by kernel_rfl
theorem tTab : (Tryd.prog.globals[2]?).map (·.type) = some 113 := by kernel_rfl
abbrev laid2 : List (String × DataW Unit) := [("math/bits.deBruijn64tab", Rows.laid_math_bits_deBruijn64tab), ("jacquard/ints.widths", Rows.laid_jacquard_ints_widths)]
def tab64 : List Int := [0, 1, 56, 2, 57, 49, 28, 3, 61, 58, 42, 50, 38, 29, 17, 4, 62, 47, 59, 36, 45, 43, 51, 22, 53, 39, 33, 30, 24, 18, 12, 5, 63, 55, 48, 27, 60, 41, 37, 16, 46, 35, 44, 21, 52, 32, 23, 11, 54, 26, 40, 15, 34, 20, 31, 10, 25, 14, 19, 9, 13, 8, 7, 6]
theorem glob_size {W : World} {g j : Nat} {v : Value} (h0 : W.cell? ⟨g, j, none⟩ = some v) : g < W.heap.size := by
  unfold World.cell? at h0
  rcases Nat.lt_or_ge g W.heap.size with h | h
  · exact h
  · rw [Array.getElem?_eq_none (by simpa using h)] at h0; simp at h0
theorem glob_of_laid {W : World} (h : laidMetH Tryd.prog laid2 W) : Glob G0 W := by
  rw [MakeChecks.laidMetH_plain _ _ _ (by kernel_rfl)] at h
  obtain ⟨ps, ⟨g0, t0, cs0, f0, p0, q0, hg0, ht0, hv0, hd0, ⟨g1, t1, cs1, f1, p1, q1, hg1, ht1, hv1, hd1, _, _⟩, _⟩, _, _⟩ := h
  obtain rfl := Option.some.inj (gTab.symm.trans hg0)
  obtain rfl := Option.some.inj (tTab.symm.trans ht0)
  obtain rfl := Option.some.inj (gWidths.symm.trans hg1)
  obtain rfl := Option.some.inj (tWidths.symm.trans ht1)
  have cells := ints_of_trod (l := [8, 16, 32, 64]) Tryd.underlying112 Tryd.underlying3 (by kernel_rfl) hd1
  have cells2 := ints_of_trod (l := tab64) Tryd.underlying113 Tryd.underlying5 (by kernel_rfl) hd0
  have at0 : ∀ j, j < 4 → W.cell? ⟨1, j, none⟩ = some (.int .i64 (([8, 16, 32, 64] : List Int).getD j 0)) := fun j hj => by
    have h1 := World.var?_cell hg1 hv1 j
    rw [h1, ← Array.getElem?_toList]
    exact cells j hj
  have at1 : ∀ j, j < 64 → W.cell? ⟨2, j, none⟩ = some (.int .u8 (tab64.getD j 0)) := fun j hj => by
    have h1 := World.var?_cell hg0 hv0 j
    rw [h1, ← Array.getElem?_toList]
    exact cells2 j hj
  intro g c hgc
  simp only [G0, List.mem_cons, List.not_mem_nil, or_false, Prod.mk.injEq] at hgc
  rcases hgc with ⟨rfl, rfl⟩ | ⟨rfl, rfl⟩
  · exact ⟨glob_size (at0 0 (by decide)), fun j hj => ⟨_, at0 j (by simpa [SV.len] using hj), by simp only [SV.cell, rep]⟩⟩
  · exact ⟨glob_size (at1 0 (by decide)), fun j hj => ⟨_, at1 j (by simpa [SV.len] using hj), by simp only [SV.cell, rep]; rfl⟩⟩

theorem door_met (os : Os) (args : Array Value) : laidMetH Tryd.prog laid2 ((World.doorLaid Tryd.prog 19 os).forCall (fun _ _ => 0) ⟨#[], args, []⟩).memory :=
  laidMetH_of_parts3 (fuel := 8) (laidMet_of_run' 65 (by kernel_rfl) (by kernel_rfl)) (by kernel_rfl) (by kernel_rfl)

/-- A law that answers 'true' at these arguments. -/
noncomputable def trueS (ok : List D → Bool) : Ev.Spec := guarded fun ds => some (ok ds, .bool true)
theorem call_true {f : Nat} {ok : List D → Bool} (hs : Snd f (trueS ok)) {ds : List D} {w : World} {args : List Value} (hok : ok ds = true) (hG : Glob G0 w) (hl : lie none w ds args)
    (hcall : (callFunc f ⟨args⟩).run Tryd.prog w = .ok (.enter f ⟨args⟩) w) : Calls Tryd.prog f ⟨args⟩ w fun e w' => e = .returned (.bool true) ∧ Below w.heap.size w w' := by
  obtain ⟨d, hd, hgo⟩ := hs ds some (.bool true) (by simp [trueS, guarded, hok])
  cases hd
  rcases hgo w args hG hl with ⟨v, w', h1, _⟩ | ⟨_, h2⟩
  · rw [hcall] at h1; cases h1
  · exact Calls.mono h2 fun e w' ⟨v, he, hb, hv⟩ => by
      simp only [lies] at hv
      subst hv
      exact ⟨he, hb⟩
end Go.L08

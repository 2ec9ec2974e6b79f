/-
  Part of the proof; what its functions and lemmas say stands in the text.
-/
import Derived.Test.YtaabolgkoegohaaDoorS05dA
import Derived.Test.YtaabolgkoegohaaDoorEvE
import Derived.Test.YtaabolgkoegohaaDoorRows
import Derived.Test.YtaabolgkoegohaaDoorTie
import Derived.Test.YtaabolgkoegohaaDoorCards
set_option linter.unusedSimpArgs false
set_option linter.unusedVariables false
/-!
Rows.
-/
namespace Go.L05d
open Go.Ev Go.Proofs Go.RowKit Go.ChangeShapes Go.WideShapes Go.ChangeAt
open Go.Proofs.YtaabolgkoegohaaDoor (Rows.laid_jacquard_ints_widths Rows.laid_math_bits_deBruijn64tab)

theorem own : ownKnob Tryd.prog.godebug = none := by kernel_rfl
theorem laidOut : laidOutB Tryd.prog = true := by kernel_rfl
theorem gWidths : Tryd.prog.globalNamed "jacquard/ints.widths" = some 1 := by kernel_rfl
theorem tWidths : (Tryd.prog.globals[1]?).map (·.type) = some 53 := by kernel_rfl
abbrev laid2 : List (String × DataW Unit) := [("math/bits.deBruijn64tab", Rows.laid_math_bits_deBruijn64tab), ("jacquard/ints.widths", Rows.laid_jacquard_ints_widths)]
abbrev laid1 : List (String × DataW Unit) := [("jacquard/ints.widths", Rows.laid_jacquard_ints_widths)]
theorem glob_size {W : World} {g j : Nat} {v : Value} (h0 : W.cell? ⟨g, j, none⟩ = some v) : g < W.heap.size := by
  unfold World.cell? at h0
  rcases Nat.lt_or_ge g W.heap.size with h | h
  · exact h
  · rw [Array.getElem?_eq_none (by simpa using h)] at h0; simp at h0
theorem glob_at {W : World} {g : Nat} {v : Array Value} (hg : g = 1) (at0 : ∀ j, j < 4 → W.cell? ⟨1, j, none⟩ = some (.int .i64 (([8, 16, 32, 64] : List Int).getD j 0))) : Glob G0 W := by
  intro g c hgc
  simp only [G0, List.mem_cons, List.not_mem_nil, or_false, Prod.mk.injEq] at hgc
  obtain ⟨rfl, rfl⟩ := hgc
  exact ⟨glob_size (at0 0 (by decide)), fun j hj => ⟨_, at0 j (by simpa [SV.len] using hj), by simp only [SV.cell, rep]⟩⟩
theorem glob_of_laid {W : World} (h : laidMetH Tryd.prog laid2 W) : Glob G0 W := by
  rw [MakeChecks.laidMetH_plain _ _ _ (by kernel_rfl)] at h
  obtain ⟨ps, ⟨g0, t0, cs0, f0, p0, q0, hg0, ht0, hv0, hd0, ⟨g1, t1, cs1, f1, p1, q1, hg1, ht1, hv1, hd1, _, _⟩, _⟩, _, _⟩ := h
  obtain rfl := Option.some.inj (gWidths.symm.trans hg1)
  obtain rfl := Option.some.inj (tWidths.symm.trans ht1)
  have cells := ints_of_trod (l := [8, 16, 32, 64]) Tryd.underlying53 Tryd.underlying3 (by kernel_rfl) hd1
  refine glob_at (v := #[]) rfl fun j hj => ?_
  have h1 := World.var?_cell hg1 hv1 j
  rw [h1, ← Array.getElem?_toList]
  exact cells j hj
theorem glob_of_laid1 {W : World} (h : laidMetH Tryd.prog laid1 W) : Glob G0 W := by
  rw [MakeChecks.laidMetH_plain _ _ _ (by kernel_rfl)] at h
  obtain ⟨ps, ⟨g1, t1, cs1, f1, p1, q1, hg1, ht1, hv1, hd1, _, _⟩, _, _⟩ := h
  obtain rfl := Option.some.inj (gWidths.symm.trans hg1)
  obtain rfl := Option.some.inj (tWidths.symm.trans ht1)
  have cells := ints_of_trod (l := [8, 16, 32, 64]) Tryd.underlying53 Tryd.underlying3 (by kernel_rfl) hd1
  refine glob_at (v := #[]) rfl fun j hj => ?_
  have h1 := World.var?_cell hg1 hv1 j
  rw [h1, ← Array.getElem?_toList]
  exact cells j hj
theorem door_met (os : Os) (args : Array Value) : laidMetH Tryd.prog laid2 ((World.doorLaid Tryd.prog 19 os).forCall (fun _ _ => 0) ⟨#[], args, []⟩).memory :=
  laidMetH_of_parts3 (fuel := 8) (laidMet_of_run' 65 (by kernel_rfl) (by kernel_rfl)) (by kernel_rfl) (by kernel_rfl)
theorem door_met1 (os : Os) (args : Array Value) : laidMetH Tryd.prog laid1 ((World.doorLaid Tryd.prog 19 os).forCall (fun _ _ => 0) ⟨#[], args, []⟩).memory :=
  laidMetH_of_parts3 (fuel := 8) (laidMet_of_run' 65 (by kernel_rfl) (by kernel_rfl)) (by kernel_rfl) (by kernel_rfl)

/-- A law that answers 'true' at these arguments. -/
noncomputable def trueS (ok : List D → Bool) : Ev.Spec := guarded fun ds => some (ok ds, .bool true)
theorem call_true {f : Nat} {ok : List D → Bool} (hs : Snd f (trueS ok)) {ds : List D} {w : World} {args : List Value} (hok : ok ds = true) (hG : Glob G0 w) (hl : lie none w ds args)
    (hcall : (callFunc f ⟨args⟩).run Tryd.prog w = .ok (.enter f ⟨args⟩) w) : Calls Tryd.prog f ⟨args⟩ w fun e w' => e = .returned (.bool true) ∧ Below w.heap.size w w' := by
  obtain ⟨d, hd, hgo⟩ := hs ds some (.bool true) (by simp [trueS, guarded, hok])
  cases hd
  rcases hgo w args hG hl with ⟨v, w', h1, _⟩ | ⟨_, h2⟩
  · rw [hcall] at h1; cases h1
  · exact Calls.mono h2 fun e w' ⟨v, he, hb, hv⟩ => by
      simp only [lies] at hv
      subst hv
      exact ⟨he, hb⟩
end Go.L05d

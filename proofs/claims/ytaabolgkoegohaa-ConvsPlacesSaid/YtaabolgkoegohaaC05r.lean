/-
  Part of the proof; what its functions and lemmas say stands in the text.
-/
import Derived.Test.YtaabolgkoegohaaC05A
import Derived.Test.YtaabolgkoegohaaEvE
import Derived.Test.YtaabolgkoegohaaRows
set_option linter.unusedSimpArgs false
set_option linter.unusedVariables false
/-!
Rows.
-/
namespace Go.L05
open Go.Ev Go.Proofs Go.RowKit Go.ChangeShapes Go.WideShapes Go.ChangeAt

theorem own : ownKnob Try.prog.godebug = none := by kernel_rfl
theorem laidOut : laidOutB Try.prog = true := by kernel_rfl
theorem glob_nil {W : World} : Glob G0 W := fun g c h => by cases h
/-- A law that answers 'true' at these arguments. -/
noncomputable def trueS (ok : List D → Bool) : Ev.Spec := guarded fun ds => some (ok ds, .bool true)
theorem call_true {f : Nat} {ok : List D → Bool} (hs : Snd f (trueS ok)) {ds : List D} {w : World} {args : List Value} (hok : ok ds = true) (hl : lie none w ds args)
    (hcall : (callFunc f ⟨args⟩).run Try.prog w = .ok (.enter f ⟨args⟩) w) : Calls Try.prog f ⟨args⟩ w fun e w' => e = .returned (.bool true) ∧ Below w.heap.size w w' := by
  obtain ⟨d, hd, hgo⟩ := hs ds some (.bool true) (by simp [trueS, guarded, hok])
  cases hd
  rcases hgo w args glob_nil hl with ⟨v, w', h1, _⟩ | ⟨_, h2⟩
  · rw [hcall] at h1; cases h1
  · exact Calls.mono h2 fun e w' ⟨v, he, hb, hv⟩ => by
      simp only [lies] at hv
      subst hv
      exact ⟨he, hb⟩
def chainT : List Bool → Option D
  | [] => some (.bool true)
  | b :: l => if b = true then chainT l else some (.bool false)
theorem chainT_all : ∀ {l : List Bool}, (∀ b ∈ l, b = true) → chainT l = some (.bool true)
  | [], _ => rfl
  | b :: l, h => by
    simp only [chainT, h b List.mem_cons_self, if_true]
    exact chainT_all fun c hc => h c (List.mem_cons_of_mem _ hc)
end Go.L05

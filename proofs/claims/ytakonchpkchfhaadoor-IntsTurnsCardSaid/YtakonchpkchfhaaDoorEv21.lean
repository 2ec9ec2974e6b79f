/-
  Part of the proof; what its functions and lemmas say stands in the text.
-/
import Derived.Test.YtakonchpkchfhaaDoorEv20
set_option linter.unusedSimpArgs false
set_option linter.unusedVariables false
/-!
Tables of specifications; joined specifications.
-/
namespace Go.Ev
open Go.RowKit

def tabOf (l : List (Nat × Spec)) : Table := fun f => match l with
  | [] => none
  | (g, s) :: l => if f = g then some s else tabOf l f

theorem TableOK.nil {P : Program} {G : List (Nat × SV)} : TableOK P G (tabOf []) := fun f s h => by cases h
theorem TableOK.cons {P : Program} {G : List (Nat × SV)} {g : Nat} {s : Spec} {l : List (Nat × Spec)} (hs : Sound P G g s) (h : TableOK P G (tabOf l)) : TableOK P G (tabOf ((g, s) :: l)) := by
  intro f s' hf
  simp only [tabOf] at hf
  split at hf
  · rename_i e; subst e; cases hf; exact hs
  · exact h f s' hf

/-- One answer. -/
def joined (F : List D → Option D) : Spec := fun ds K => match F ds with
  | some d => K d
  | none => none

theorem Sound.join {P : Program} {G : List (Nat × SV)} {f : FuncId} {s : Spec} {F : List D → Option D} (hs : Sound P G f s) (h : ∀ ds d, F ds = some d → s ds some = some d) : Sound P G f (joined F) := by
  intro ds K r hK
  unfold joined at hK
  split at hK
  · rename_i d hd
    obtain ⟨d', h1, h2⟩ := hs ds some d (h ds d hd)
    cases h1
    exact ⟨d, hK, h2⟩
  · cases hK

/-- One answer, where the guard holds. -/
def guarded (F : List D → Option (Bool × D)) : Spec := fun ds K => match F ds with
  | some (b, d) => if b = true then K d else none
  | none => none

theorem Sound.guard {P : Program} {G : List (Nat × SV)} {f : FuncId} {s : Spec} {F : List D → Option (Bool × D)} (hs : Sound P G f s) (h : ∀ ds d, F ds = some (true, d) → s ds some = some d) : Sound P G f (guarded F) := by
  intro ds K r hK
  unfold guarded at hK
  split at hK
  · rename_i b d hd
    split at hK
    · rename_i hb
      subst hb
      obtain ⟨d', h1, h2⟩ := hs ds some d (h ds d hd)
      cases h1
      exact ⟨d, hK, h2⟩
    · cases hK
  · cases hK
end Go.Ev

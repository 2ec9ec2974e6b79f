/-
  Part of the proof; what its functions and lemmas say stands in the text.
-/
import Derived.Test.YtakonchpkchfhaaDoorEv23
set_option linter.unusedSimpArgs false
set_option linter.unusedVariables false
/-!
Loops that may be left by two ways.
-/
namespace Go.Ev
open Go.RowKit

/-- A loop that may be left by two ways. -/
noncomputable def sumF2 {α : Type} (keep : List Nat) (parse : St → Option (Bool × α)) (d : α → Bool) (e1 e2 : Ex) (T : α → St) (fin : α → α) : LoopF := fun st K => match parse (canon keep st) with
  | some (g, x) => if g = true then if d (fin x) = true then K e1 (T (fin x)) else K e2 (T (fin x)) else none
  | none => none
theorem SemOK.sum2 {P : Program} {G : List (Nat × SV)} {c : Code} {α : Type} {S : α → St} {d : α → Bool} {e1 e2 : Ex} {T : α → St} {fin : α → α} {I : α → Prop} {keep : List Nat} {parse : St → Option (Bool × α)}
    (h : ∀ x, I x → ∀ (w0 : World) (L : List (Option Loc)) (a : Act) (w : World), Glob G w0 → Rel w0 L (S x) a w → ∀ (Q : Exit → Act → World → Prop), (∀ L' a' w', Rel w0 L' (T (fin x)) a' w' → Q (if d (fin x) = true then e1 else e2).out a' w') → (Code.loop c).wp P Q a w)
    (hp : ∀ st x, parse st = some (true, x) → I x ∧ ∀ (w0 : World) (L : List (Option Loc)) (a : Act) (w : World), Rel w0 L st a w → Rel w0 L (S x) a w) : SemOK P G c (sumF2 keep parse d e1 e2 T fin) := by
  intro st K r hF
  unfold sumF2 at hF
  split at hF
  · rename_i g x hx
    split at hF
    · rename_i hg
      subst hg
      obtain ⟨hi, hw⟩ := hp _ x hx
      by_cases hd : d (fin x) = true
      · rw [if_pos hd] at hF
        refine ⟨e1, _, hF, fun w0 L a w hG hrel Q hQ => ?_⟩
        obtain ⟨L', hrel'⟩ := canon_rel keep hrel
        exact h x hi w0 L' a w hG (hw w0 L' a w hrel') Q (by rw [if_pos hd]; exact hQ)
      · rw [if_neg hd] at hF
        refine ⟨e2, _, hF, fun w0 L a w hG hrel Q hQ => ?_⟩
        obtain ⟨L', hrel'⟩ := canon_rel keep hrel
        exact h x hi w0 L' a w hG (hw w0 L' a w hrel') Q (by rw [if_neg hd]; exact hQ)
    · cases hF
  · cases hF

/-- Two answers. -/
def two (F : List D → Option (Bool × D × D)) : Spec := fun ds K => match F ds with
  | some (b, d, e) => if b = true then K d else K e
  | none => none
def left (F : List D → Option (Bool × D × D)) : Spec := guarded fun ds => match F ds with | some (b, d, _) => some (b, d) | none => none
def right (F : List D → Option (Bool × D × D)) : Spec := guarded fun ds => match F ds with | some (b, _, e) => some (!b, e) | none => none
theorem Sound.both {P : Program} {G : List (Nat × SV)} {f : FuncId} {F : List D → Option (Bool × D × D)} (h1 : Sound P G f (left F)) (h2 : Sound P G f (right F)) : Sound P G f (two F) := by
  intro ds K r hK
  unfold two at hK
  split at hK
  · rename_i b d e hF
    split at hK
    · rename_i hb
      exact h1 ds K r (by simp only [left, guarded, hF, hb, if_true]; exact hK)
    · rename_i hb
      exact h2 ds K r (by simp only [right, guarded, hF, hb, Bool.not_false, if_true]; exact hK)
  · cases hK
theorem Sound.left {P : Program} {G : List (Nat × SV)} {f : FuncId} {F : List D → Option (Bool × D × D)} (h : Sound P G f (two F)) : Sound P G f (left F) := by
  intro ds K r hK
  refine h ds K r ?_
  unfold Go.Ev.left guarded at hK
  unfold two
  split at hK
  · rename_i b d hF
    dsimp only at hF
    split at hF
    · rename_i b' d' e' hF'
      simp only [Option.some.injEq, Prod.mk.injEq] at hF
      obtain ⟨rfl, rfl⟩ := hF
      split at hK
      · rename_i hb; simp only [hb, if_true]; exact hK
      · cases hK
    · cases hF
  · cases hK
theorem Sound.right {P : Program} {G : List (Nat × SV)} {f : FuncId} {F : List D → Option (Bool × D × D)} (h : Sound P G f (two F)) : Sound P G f (right F) := by
  intro ds K r hK
  refine h ds K r ?_
  unfold Go.Ev.right guarded at hK
  unfold two
  split at hK
  · rename_i b d hF
    dsimp only at hF
    split at hF
    · rename_i b' d' e' hF'
      simp only [Option.some.injEq, Prod.mk.injEq] at hF
      obtain ⟨rfl, rfl⟩ := hF
      split at hK
      · rename_i hb
        have hb' : b' = false := by simpa using hb
        simp only [hb', if_false, Bool.false_eq_true]; exact hK
      · cases hK
    · cases hF
  · cases hK
/-- Two answers of one shape are one. -/
theorem Sound.merge {P : Program} {G : List (Nat × SV)} {f : FuncId} {F : List D → Option (Bool × D × D)} {J : List D → Option D} (h : Sound P G f (two F)) (hj : ∀ ds d, J ds = some d → ∃ b d1 d2, F ds = some (b, d1, d2) ∧ d = if b = true then d1 else d2) : Sound P G f (joined J) := by
  intro ds K r hK
  unfold joined at hK
  split at hK
  · rename_i d hJ
    obtain ⟨b, d1, d2, hF, rfl⟩ := hj ds d hJ
    refine h ds K r ?_
    simp only [two, hF]
    split at hK
    · rename_i hb; rw [if_pos hb]; exact hK
    · rename_i hb; rw [if_neg hb]; exact hK
  · cases hK
end Go.Ev

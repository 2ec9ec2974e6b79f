/-
  Part of the proof; what its functions and lemmas say stands in the text.
-/
import Derived.Test.YtakonchpkchfhaaDoorEv22
set_option linter.unusedSimpArgs false
set_option linter.unusedVariables false
/-!
Slices that are handed over, and how long they may be.
-/
namespace Go.Ev
open Go.RowKit Go.ChangeShapes Go.WideShapes

section
variable {H : Type} {enc : TypeId × Value → H} {P : Program}
theorem sized_at {t e : TypeId} {els sp : List (DataW H)} : ∀ {ts : List TypeId} {ds : List (DataW H)} {j : Nat}, (DataW.weightsEach P ts ds).all (· ≤ reachBytes) = true → ts[j]? = some t → ds[j]? = some (.slice els sp) → P.underlying t = some (.slice e) →
    (els.length + sp.length) * P.bytesOf e ≤ 140737488351232
  | [], _, _, _, ht, _, _ => by simp at ht
  | _ :: _, [], _, _, _, hd, _ => by simp at hd
  | t0 :: ts, d0 :: ds, j, h, ht, hd, hu => by
    simp only [DataW.weightsEach, List.all_append, Bool.and_eq_true] at h
    cases j with
    | zero =>
      simp only [List.getElem?_cons_zero, Option.some.injEq] at ht hd
      subst ht; subst hd
      have h1 := h.1
      simp only [DataW.weights, hu, List.all_cons, Bool.and_eq_true, decide_eq_true_eq] at h1
      exact h1.1
    | succ j => exact sized_at h.2 (by simpa using ht) (by simpa using hd) hu

variable {W : World} {base b0 : Nat} {held : Bool} {r : Reach} {v : Value} {d : DataW H} {p : List MemPlace} {t : TypeId}
/-- A slice of words, and what it weighs. -/
theorem arg_sl64w {e : TypeId} (ht : P.underlying t = some (.slice e)) (he : P.underlying e = some (.int .u64)) (hc : P.cellsOf e = 1) (hv : Value.okWide P W r b0 t v) (h : DataW.Trod enc P W base (fun _ => true) held t v d p) :
    ∃ x : D, lies none W x v ∧ (x = .c (.slice none 0 0) ∨ (∃ a, x = .c (.slice (some a) 0 0)) ∨ ∃ l, x = .sl64 l ∧ l.length ≤ maxLen ∧ ∃ els sp, d = .slice els sp ∧ l.length ≤ els.length + sp.length) := by
  obtain ⟨x, h1, h2⟩ := arg_sl64 ht he hc hv h
  refine ⟨x, h1, ?_⟩
  rcases h2 with h2 | h2 | ⟨l, rfl, h3⟩
  · exact .inl h2
  · exact .inr (.inl h2)
  · refine .inr (.inr ⟨l, rfl, h3, ?_⟩)
    obtain ⟨a, len, cap, rfl⟩ := okWide_slice ht hv
    obtain ⟨fuel, hf⟩ := h
    simp only [Value.cells] at hf
    simp only [lies] at h1
    obtain ⟨b, o, cap', hcap, _, hv', _⟩ := h1
    simp only [Value.slice.injEq] at hcap
    obtain ⟨rfl, rfl, rfl⟩ := hcap
    rcases open_ints ht he hc hf with ⟨h4, _⟩ | ⟨a', len', cap'', zs, h4, _, h5, h6, h7, h8, _, _⟩
    · simp at h4
    · simp only [List.cons.injEq, Value.slice.injEq, and_true] at h4
      obtain ⟨_, rfl, rfl⟩ := h4
      simp only [Prod.mk.injEq] at h8
      refine ⟨_, _, h8.1, ?_⟩
      simp only [if_true] at h7
      simp only [lits, List.length_map, List.length_take, List.length_drop]
      omega
end
end Go.Ev

/-
  Part of the proof; what its functions and lemmas say stands in the text.
-/
import Derived.Test.YtakonchpkchfhaaDoorEv24
set_option linter.unusedSimpArgs false
set_option linter.unusedVariables false
/-!
Loops left by two ways, each with a state of its own; rounds with a number.
-/
namespace Go.Ev
open Go.RowKit

/-- A loop that may be left by two ways, each with a state of its own. -/
noncomputable def sumG {α : Type} (keep : List Nat) (parse : St → Option (Bool × α)) (d : α → Bool) (e1 : Ex) (T1 : α → St) (e2 : Ex) (T2 : α → St) (fin : α → α) : LoopF := fun st K => match parse (canon keep st) with
  | some (g, x) => if g = true then if d (fin x) = true then K e1 (T1 (fin x)) else K e2 (T2 (fin x)) else none
  | none => none

section
variable {P : Program} {G : List (Nat × SV)} {sp : Table} {ann : Nat → List Nat} {ls : Nat → Option LoopF}

/-- A loop, by its rounds: go on, or leave. -/
theorem SemOK.rounds (hsp : TableOK P G sp) (hm : P.follows .mixedOrders = true) (n : Nat) {c : Code} (hls : LsOK P G ls c) {α : Type} (S : α → St) (d : α → Bool) (e1 : Ex) (h1 : e1.out ≠ .normal) (T1 : α → St) (e2 : Ex) (h2 : e2.out ≠ .normal) (T2 : α → St)
    (keep : List Nat) (parse : St → Option (Bool × α)) (go : α → Bool) (next : α → α) (I : α → Prop) (hI : ∀ x, I x → go x = true → I (next x))
    (body : ∀ x, I x → ∀ (K : Ex → St → Option D), exec P G sp ann ls n c (S x) (fun e st => K e (canon keep st)) = (if go x = true then K .normal (S (next x)) else if d x = true then K e1 (T1 x) else K e2 (T2 x)))
    (fin : α → α) (hfin : ∀ x, fin x = if go x = true then fin (next x) else x) (m : α → Nat) (hm2 : ∀ x, go x = true → m (next x) < m x)
    (hp : ∀ st x, parse st = some (true, x) → I x ∧ ∀ (w0 : World) (L : List (Option Loc)) (a : Act) (w : World), Rel w0 L st a w → Rel w0 L (S x) a w) :
    SemOK P G c (sumG keep parse d e1 T1 e2 T2 fin) := by
  intro st K r hF
  unfold sumG at hF
  split at hF
  · rename_i g x hx
    split at hF
    · rename_i hg
      subst hg
      obtain ⟨hi, hw⟩ := hp _ x hx
      have hne : ∀ x, (if d x = true then e1 else e2).out ≠ .normal := fun x => by split <;> assumption
      have key := loop_rule hsp hm n hls S (fun x => if d x = true then e1 else e2) hne (fun x => if d x = true then T1 x else T2 x) go next keep I hI
        (fun x hix K hK => by
          rw [body x hix K]
          split
          · rfl
          · split <;> rfl) fin hfin m hm2 x hi
      by_cases hd : d (fin x) = true
      · rw [if_pos hd] at hF
        refine ⟨e1, _, hF, fun w0 L a w hG hrel Q hQ => ?_⟩
        obtain ⟨L', hrel'⟩ := canon_rel keep hrel
        exact key w0 L' a w hG (hw w0 L' a w hrel') Q (by simp only [if_pos hd]; exact hQ)
      · rw [if_neg hd] at hF
        refine ⟨e2, _, hF, fun w0 L a w hG hrel Q hQ => ?_⟩
        obtain ⟨L', hrel'⟩ := canon_rel keep hrel
        exact key w0 L' a w hG (hw w0 L' a w hrel') Q (by simp only [if_neg hd]; exact hQ)
    · cases hF
  · cases hF
end

/-- Rounds until one does not go on. -/
def iter {α : Type} (go : α → Bool) (next : α → α) : Nat → α → α
  | 0, x => x
  | n + 1, x => if go x = true then iter go next n (next x) else x
theorem iter_step {α : Type} {go : α → Bool} {next : α → α} {m : α → Nat} (h : ∀ x, go x = true → m x = m (next x) + 1) (x : α) : iter go next (m x) x = if go x = true then iter go next (m (next x)) (next x) else x := by
  by_cases hg : go x = true
  · rw [h x hg]; simp only [iter, hg, if_true]
  · rw [if_neg hg]
    cases m x with
    | zero => rfl
    | succ n => simp only [iter, hg, if_false, Bool.false_eq_true]
/-- A loop over a number that goes up to an end. -/
theorem SemOK.count {P : Program} {G : List (Nat × SV)} {sp : Table} {ann : Nat → List Nat} {ls : Nat → Option LoopF} (hsp : TableOK P G sp) (hm : P.follows .mixedOrders = true) (n : Nat) {c : Code} (hls : LsOK P G ls c) {α : Type} (S : α → St) (d : α → Bool) (e1 : Ex) (h1 : e1.out ≠ .normal) (T1 : α → St) (e2 : Ex) (h2 : e2.out ≠ .normal) (T2 : α → St)
    (keep : List Nat) (parse : St → Option (Bool × α)) (go : α → Bool) (next : α → α) (I : α → Prop) (hI : ∀ x, I x → go x = true → I (next x))
    (body : ∀ x, I x → ∀ (K : Ex → St → Option D), exec P G sp ann ls n c (S x) (fun e st => K e (canon keep st)) = (if go x = true then K .normal (S (next x)) else if d x = true then K e1 (T1 x) else K e2 (T2 x)))
    (m : α → Nat) (hm2 : ∀ x, go x = true → m x = m (next x) + 1)
    (hp : ∀ st x, parse st = some (true, x) → I x ∧ ∀ (w0 : World) (L : List (Option Loc)) (a : Act) (w : World), Rel w0 L st a w → Rel w0 L (S x) a w) :
    SemOK P G c (sumG keep parse d e1 T1 e2 T2 fun x => iter go next (m x) x) :=
  SemOK.rounds hsp hm n hls S d e1 h1 T1 e2 h2 T2 keep parse go next I hI body _ (iter_step hm2) m (fun x h => by rw [hm2 x h]; exact Nat.lt_succ_self _) hp

/-- What rounds keep. -/
theorem iter_inv {α : Type} {go : α → Bool} {next : α → α} {J : α → Prop} (hJ : ∀ x, J x → go x = true → J (next x)) : ∀ (n : Nat) (x : α), J x → J (iter go next n x)
  | 0, x, h => h
  | n + 1, x, h => by
    simp only [iter]
    split
    · rename_i hg; exact iter_inv hJ n _ (hJ x h hg)
    · exact h
theorem iter_stop {α : Type} {go : α → Bool} {next : α → α} {m : α → Nat} (hm : ∀ x, go x = true → m x = m (next x) + 1) : ∀ (n : Nat) (x : α), m x = n → go (iter go next n x) = false
  | 0, x, h => by
    simp only [iter]
    cases hg : go x
    · rfl
    · have := hm x hg; omega
  | n + 1, x, h => by
    simp only [iter]
    split
    · rename_i hg; exact iter_stop hm n _ (by have := hm x hg; omega)
    · rename_i hg; simpa using hg

def run {α : Type} (next : α → α) : Nat → α → α
  | 0, x => x
  | n + 1, x => run next n (next x)
theorem iter_run {α : Type} {go : α → Bool} {next : α → α} : ∀ (n : Nat) (x : α), (∀ k, k < n → go (run next k x) = true) → iter go next n x = run next n x
  | 0, _, _ => rfl
  | n + 1, x, h => by
    have h0 : go x = true := h 0 (Nat.succ_pos n)
    simp only [iter, h0, if_true, run]
    exact iter_run n (next x) fun k hk => h (k + 1) (by omega)

/-! ### At one point -/
def Pt (P : Program) (G : List (Nat × SV)) (f : FuncId) (ds : List D) (d : D) : Prop := ∀ (w : World) (args : List Value), Glob G w → lie none w ds args → CallGo P f args w d
section
variable {P : Program} {G : List (Nat × SV)} {f : FuncId}
theorem Sound.pt {s : Spec} (hs : Sound P G f s) {ds : List D} {d : D} (h : s ds some = some d) : Pt P G f ds d := by
  obtain ⟨d', h1, h2⟩ := hs ds some d h
  cases h1
  exact h2
theorem Sound.of_pt {F : List D → Option D} (h : ∀ ds d, F ds = some d → Pt P G f ds d) : Sound P G f (joined F) := by
  intro ds K r hK
  unfold joined at hK
  split at hK
  · rename_i d hF
    exact ⟨d, hK, h ds d hF⟩
  · cases hK
theorem Sound.of_ptG {F : List D → Option (Bool × D)} (h : ∀ ds d, F ds = some (true, d) → Pt P G f ds d) : Sound P G f (guarded F) := by
  intro ds K r hK
  unfold guarded at hK
  split at hK
  · rename_i b d hF
    split at hK
    · rename_i hb
      subst hb
      exact ⟨d, hK, h ds d hF⟩
    · cases hK
  · cases hK
theorem Sound.of_ptT {F : List D → Option (Bool × D × D)} (h : ∀ ds b d e, F ds = some (b, d, e) → Pt P G f ds (if b = true then d else e)) : Sound P G f (two F) := by
  intro ds K r hK
  unfold two at hK
  split at hK
  · rename_i b d e hF
    split at hK
    · rename_i hb
      exact ⟨d, hK, by have := h ds b d e hF; rw [if_pos hb] at this; exact this⟩
    · rename_i hb
      exact ⟨e, hK, by have := h ds b d e hF; rw [if_neg hb] at this; exact this⟩
  · cases hK
end
end Go.Ev

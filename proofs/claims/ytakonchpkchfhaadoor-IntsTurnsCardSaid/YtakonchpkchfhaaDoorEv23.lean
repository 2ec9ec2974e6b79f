/-
  Part of the proof; what its functions and lemmas say stands in the text.
-/
import Derived.Test.YtakonchpkchfhaaDoorEv21
set_option linter.unusedSimpArgs false
set_option linter.unusedVariables false
/-!
Loops told at once.
-/
namespace Go.Ev
open Go.RowKit

/-- A state with these temporaries, and no more known. -/
def mkT (n : Nat) (l : List (Nat × SV)) : List SV := (List.range n).map fun i => match l.find? (fun x => x.1 == i) with | some x => x.2 | none => .any

def findLoop : List Code → Nat → Code
  | [], _ => .skip
  | c :: l, id => if firstId c = id then c else findLoop l id

theorem findLoop_eq {id : Nat} {c : Code} : ∀ {l : List Code}, (l.map firstId).Nodup → c ∈ l → firstId c = id → findLoop l id = c
  | [], _, h, _ => by cases h
  | b :: l, hn, h, hid => by
    simp only [List.map_cons, List.nodup_cons] at hn
    simp only [findLoop]
    rcases List.mem_cons.1 h with rfl | h
    · rw [if_pos hid]
    · have : firstId b ≠ id := fun e => hn.1 (by rw [e, ← hid]; exact List.mem_map_of_mem h)
      rw [if_neg this]
      exact findLoop_eq hn.2 h hid

/-- A loop table as a list. -/
def lsOf (l : List (Nat × LoopF)) : Nat → Option LoopF := fun i => match l with
  | [] => none
  | (j, F) :: l => if i = j then some F else lsOf l i
theorem LsOK.of {P : Program} {G : List (Nat × SV)} {l : List (Nat × LoopF)} {c : Code} (hn : ((loops c).map firstId).Nodup) (h : ∀ x ∈ l, SemOK P G (findLoop (loops c) x.1) x.2) : LsOK P G (lsOf l) c := by
  intro b hb F hF
  have : ∀ l', lsOf l' (firstId b) = some F → ∃ x ∈ l', x.1 = firstId b ∧ x.2 = F := by
    intro l'
    induction l' with
    | nil => intro h; cases h
    | cons x l' ih =>
      intro h
      obtain ⟨j, F'⟩ := x
      simp only [lsOf] at h
      split at h
      · rename_i e; cases h; exact ⟨_, List.mem_cons_self, e.symm, rfl⟩
      · obtain ⟨x, h1, h2⟩ := ih h; exact ⟨x, List.mem_cons_of_mem _ h1, h2⟩
  obtain ⟨x, hx, h1, rfl⟩ := this l hF
  have := h x hx
  rw [h1, findLoop_eq hn hb rfl] at this
  exact this

theorem reps_of_getD {L : List (Option Loc)} : ∀ {l : List SV} {vs : List Value}, vs.length = l.length → (∀ j, j < l.length → ∃ v, vs[j]? = some v ∧ rep L (l.getD j .any) v) → reps L l vs
  | [], vs, h, _ => by simp only [reps]; exact List.eq_nil_of_length_eq_zero h
  | s :: l, [], h, _ => by simp at h
  | s :: l, v :: vs, h, hj => by
    simp only [reps]
    obtain ⟨u, h1, h2⟩ := hj 0 (by simp)
    simp at h1; subst h1
    refine ⟨v, vs, rfl, by simpa using h2, reps_of_getD (by simpa using h) fun j hlt => ?_⟩
    obtain ⟨u, h1, h2⟩ := hj (j + 1) (by simpa using hlt)
    exact ⟨u, by simpa using h1, by simpa using h2⟩

/-- Less is known. -/
theorem Rel.pick {w0 : World} {L : List (Option Loc)} {st : St} {a : Act} {w : World} (h : Rel w0 L st a w) {n : Nat} {l : List (Nat × SV)} (hn : st.tmps.length = n) (hl : ∀ x ∈ l, st.tmps.getD x.1 .any = x.2) :
    Rel w0 L ⟨mkT n l, st.rows⟩ a w := by
  refine ⟨h.defers, ?_, h.rows⟩
  have hlen := reps_length h.tmps
  refine reps_of_getD (by simp [mkT, hlen, hn]) fun j hj => ?_
  have hj' : j < n := by simpa [mkT] using hj
  obtain ⟨v, h1, h2⟩ := reps_get h.tmps j (by omega)
  refine ⟨v, h1, ?_⟩
  have e : (mkT n l).getD j .any = match l.find? (fun x => x.1 == j) with | some x => x.2 | none => .any := by
    rw [List.getD_eq_getElem?_getD]
    simp [mkT, hj']
  rw [e]
  cases hf : l.find? (fun x => x.1 == j) with
  | none => simp only [rep]
  | some x =>
    have h3 := List.find?_some hf
    have h4 := hl x (List.mem_of_find?_eq_some hf)
    simp only [beq_iff_eq] at h3
    rw [h3] at h4
    show rep L x.2 v
    rw [← h4]; exact h2

section
variable {P : Program} {G : List (Nat × SV)} {sp : Table} {ann : Nat → List Nat} {ls : Nat → Option LoopF}

/-- A loop, by its rounds: from S x either one round more, to S (next x), or out of it, to T x. -/
theorem loop_rule (hsp : TableOK P G sp) (hm : P.follows .mixedOrders = true) (n : Nat) {c : Code} (hls : LsOK P G ls c) {α : Type} (S : α → St) (e : α → Ex) (he : ∀ x, (e x).out ≠ .normal) (T : α → St) (go : α → Bool) (next : α → α)
    (keep : List Nat) (I : α → Prop) (hI : ∀ x, I x → go x = true → I (next x))
    (body : ∀ x, I x → ∀ (K : Ex → St → Option D), (if go x = true then K .normal (S (next x)) else K (e x) (T x)) ≠ none → exec P G sp ann ls n c (S x) (fun e st => K e (canon keep st)) = (if go x = true then K .normal (S (next x)) else K (e x) (T x)))
    (fin : α → α) (hfin : ∀ x, fin x = if go x = true then fin (next x) else x) (m : α → Nat) (hm2 : ∀ x, go x = true → m (next x) < m x) :
    ∀ x, I x → ∀ (w0 : World) (L : List (Option Loc)) (a : Act) (w : World), Glob G w0 → Rel w0 L (S x) a w → ∀ (Q : Exit → Act → World → Prop), (∀ L' a' w', Rel w0 L' (T (fin x)) a' w' → Q (e (fin x)).out a' w') → (Code.loop c).wp P Q a w := by
  classical
  have key : ∀ k x, I x → m x < k → ∀ (w0 : World) (L : List (Option Loc)) (a : Act) (w : World), Glob G w0 → Rel w0 L (S x) a w → ∀ (Q : Exit → Act → World → Prop), (∀ L' a' w', Rel w0 L' (T (fin x)) a' w' → Q (e (fin x)).out a' w') → Code.rounds P c Q k a w := by
    intro k
    induction k with
    | zero => intro x _ h; cases h
    | succ k ih =>
      intro x hix hx w0 L a w hG hrel Q hQ
      rw [rounds_succ]
      by_cases hg : go x = true
      · have hb := body x hix (fun e' st' => if e' = Ex.normal ∧ st' = S (next x) then some D.any else none) (by simp [hg])
        simp only [hg, if_true, and_self] at hb
        obtain ⟨e', st', h1, h2⟩ := exec_ok hsp hm n c hls (S x) _ D.any hb
        split at h1
        · rename_i hh
          obtain ⟨rfl, hst⟩ := hh
          refine h2 w0 L a w hG hrel _ fun L' a' w' hr' => ?_
          obtain ⟨L2, hr2⟩ := canon_rel keep hr'
          rw [hst] at hr2
          rw [hfin, if_pos hg] at hQ
          exact ih (next x) (hI x hix hg) (by have := hm2 x hg; omega) w0 L2 a' w' hG hr2 Q hQ
        · cases h1
      · have hb := body x hix (fun e' st' => if e' = e x ∧ st' = T x then some D.any else none) (by simp [hg])
        simp only [hg, if_false, and_self, if_true, Bool.false_eq_true] at hb
        obtain ⟨e', st', h1, h2⟩ := exec_ok hsp hm n c hls (S x) _ D.any hb
        split at h1
        · rename_i hh
          obtain ⟨rfl, hst⟩ := hh
          rw [hfin, if_neg hg] at hQ
          have hne := he x
          refine h2 w0 L a w hG hrel _ fun L' a' w' hr' => ?_
          obtain ⟨L2, hr2⟩ := canon_rel keep hr'
          rw [hst] at hr2
          have hq := hQ L2 a' w' hr2
          revert hq hne
          generalize (e x).out = ex
          intro hne hq
          cases ex <;> first | exact absurd rfl hne | exact hq
        · cases h1
  intro x hix w0 L a w hG hrel Q hQ
  exact wp_loop_rounds (m x + 1) (key (m x + 1) x hix (Nat.lt_succ_self _) w0 L a w hG hrel Q hQ)

/-- A loop told by what it leaves. -/
def sumF {α : Type} (keep : List Nat) (parse : St → Option α) (e : α → Ex) (T : α → St) (fin : α → α) : LoopF := fun st K => match parse (canon keep st) with
  | some x => K (e (fin x)) (T (fin x))
  | none => none
theorem SemOK.sum {c : Code} {α : Type} {S : α → St} {e : α → Ex} {T : α → St} {fin : α → α} {I : α → Prop} {keep : List Nat} {parse : St → Option α}
    (h : ∀ x, I x → ∀ (w0 : World) (L : List (Option Loc)) (a : Act) (w : World), Glob G w0 → Rel w0 L (S x) a w → ∀ (Q : Exit → Act → World → Prop), (∀ L' a' w', Rel w0 L' (T (fin x)) a' w' → Q (e (fin x)).out a' w') → (Code.loop c).wp P Q a w)
    (hp : ∀ st x, parse st = some x → I x ∧ ∀ (w0 : World) (L : List (Option Loc)) (a : Act) (w : World), Rel w0 L st a w → Rel w0 L (S x) a w) : SemOK P G c (sumF keep parse e T fin) := by
  intro st K r hF
  unfold sumF at hF
  split at hF
  · rename_i x hx
    obtain ⟨hi, hw⟩ := hp _ x hx
    refine ⟨_, _, hF, fun w0 L a w hG hrel Q hQ => ?_⟩
    obtain ⟨L', hrel'⟩ := canon_rel keep hrel
    exact h x hi w0 L' a w hG (hw w0 L' a w hrel') Q hQ
  · cases hF
end
end Go.Ev

/-
  Part of the proof; what its functions and lemmas say stands in the text.
-/
import Derived.Test.YtnbafdmlfpmfkaaGreatDoorEvD
import Derived.ProofKit
import Derived.LaidMore
import Derived.OpenShut
import Derived.Carry
import Derived.Stop.Joined
import Derived.Deep.Fields
import Derived.Laws.Externs
import Derived.Deep.SlicePairs
set_option linter.unusedSimpArgs false
set_option linter.unusedVariables false
namespace Go.Ev
open Go.RowKit
def tabOf (l : List (Nat × Spec)) : Table := fun f => match l with
 | [] => none
 | (g, s) :: l => if f = g then some s else tabOf l f
theorem TableOK.nil {P : Program} {G : List (Nat × SV)} : TableOK P G (tabOf []) := fun f s h => by cases h
theorem TableOK.cons {P : Program} {G : List (Nat × SV)} {g : Nat} {s : Spec} {l : List (Nat × Spec)} (hs : Sound P G g s) (h : TableOK P G (tabOf l)) : TableOK P G (tabOf ((g, s) :: l)) := by
 intro f s' hf
 simp only [tabOf] at hf
 split at hf
 ·rename_i e; subst e; cases hf; exact hs
 ·exact h f s' hf
def joined (F : List D → Option D) : Spec := fun ds K => match F ds with
 | some d => K d
 | none => none
theorem Sound.join {P : Program} {G : List (Nat × SV)} {f : FuncId} {s : Spec} {F : List D → Option D} (hs : Sound P G f s) (h : ∀ ds d, F ds = some d → s ds some = some d) : Sound P G f (joined F) := by
 intro ds K r hK
 unfold joined at hK
 split at hK
 ·rename_i d hd
  obtain ⟨d', h1, h2⟩ := hs ds some d (h ds d hd)
  cases h1
  exact ⟨d, hK, h2⟩
 ·cases hK
def guarded (F : List D → Option (Bool × D)) : Spec := fun ds K => match F ds with
 | some (b, d) => if b = true then K d else none
 | none => none
theorem Sound.guard {P : Program} {G : List (Nat × SV)} {f : FuncId} {s : Spec} {F : List D → Option (Bool × D)} (hs : Sound P G f s) (h : ∀ ds d, F ds = some (true, d) → s ds some = some d) : Sound P G f (guarded F) := by
 intro ds K r hK
 unfold guarded at hK
 split at hK
 ·rename_i b d hd
  split at hK
  ·rename_i hb
   subst hb
   obtain ⟨d', h1, h2⟩ := hs ds some d (h ds d hd)
   cases h1
   exact ⟨d, hK, h2⟩
  ·cases hK
 ·cases hK
end Go.Ev
namespace Go.Ev
open Go.RowKit
def mkT (n : Nat) (l : List (Nat × SV)) : List SV := (List.range n).map fun i => match l.find? (fun x => x.1 == i) with | some x => x.2 | none => .any
def findLoop : List Code → Nat → Code
 | [], _ => .skip
 | c :: l, id => if firstId c = id then c else findLoop l id
theorem findLoop_eq {id : Nat} {c : Code} : ∀ {l : List Code}, (l.map firstId).Nodup → c ∈ l → firstId c = id → findLoop l id = c
 | [], _, h, _ => by cases h
 | b :: l, hn, h, hid => by
  simp only [List.map_cons, List.nodup_cons] at hn
  simp only [findLoop]
  rcases List.mem_cons.1 h with rfl | h
  ·rw [if_pos hid]
  ·have : firstId b ≠ id := fun e => hn.1 (by rw [e, ← hid]; exact List.mem_map_of_mem h)
   rw [if_neg this]
   exact findLoop_eq hn.2 h hid
def lsOf (l : List (Nat × LoopF)) : Nat → Option LoopF := fun i => match l with
 | [] => none
 | (j, F) :: l => if i = j then some F else lsOf l i
theorem LsOK.of {P : Program} {G : List (Nat × SV)} {l : List (Nat × LoopF)} {c : Code} (hn : ((loops c).map firstId).Nodup) (h : ∀ x ∈ l, SemOK P G (findLoop (loops c) x.1) x.2) : LsOK P G (lsOf l) c := by
 intro b hb F hF
 have : ∀ l', lsOf l' (firstId b) = some F → ∃ x ∈ l', x.1 = firstId b ∧ x.2 = F := by
  intro l'
  induction l' with
  | nil => intro h; cases h
  | cons x l' ih =>
   intro h
   obtain ⟨j, F'⟩ := x
   simp only [lsOf] at h
   split at h
   ·rename_i e; cases h; exact ⟨_, List.mem_cons_self, e.symm, rfl⟩
   ·obtain ⟨x, h1, h2⟩ := ih h; exact ⟨x, List.mem_cons_of_mem _ h1, h2⟩
 obtain ⟨x, hx, h1, rfl⟩ := this l hF
 have := h x hx
 rw [h1, findLoop_eq hn hb rfl] at this
 exact this
theorem reps_of_getD {L : List (Option Loc)} : ∀ {l : List SV} {vs : List Value}, vs.length = l.length → (∀ j, j < l.length → ∃ v, vs[j]? = some v ∧ rep L (l.getD j .any) v) → reps L l vs
 | [], vs, h, _ => by simp only [reps]; exact List.eq_nil_of_length_eq_zero h
 | s :: l, [], h, _ => by simp at h
 | s :: l, v :: vs, h, hj => by
  simp only [reps]
  obtain ⟨u, h1, h2⟩ := hj 0 (by simp)
  simp at h1; subst h1
  refine ⟨v, vs, rfl, by simpa using h2, reps_of_getD (by simpa using h) fun j hlt => ?_⟩
  obtain ⟨u, h1, h2⟩ := hj (j + 1) (by simpa using hlt)
  exact ⟨u, by simpa using h1, by simpa using h2⟩
theorem Rel.pick {w0 : World} {L : List (Option Loc)} {st : St} {a : Act} {w : World} (h : Rel w0 L st a w) {n : Nat} {l : List (Nat × SV)} (hn : st.tmps.length = n) (hl : ∀ x ∈ l, st.tmps.getD x.1 .any = x.2) :
  Rel w0 L ⟨mkT n l, st.rows⟩ a w := by
 refine ⟨h.defers, ?_, h.rows⟩
 have hlen := reps_length h.tmps
 refine reps_of_getD (by simp [mkT, hlen, hn]) fun j hj => ?_
 have hj' : j < n := by simpa [mkT] using hj
 obtain ⟨v, h1, h2⟩ := reps_get h.tmps j (by omega)
 refine ⟨v, h1, ?_⟩
 have e : (mkT n l).getD j .any = match l.find? (fun x => x.1 == j) with | some x => x.2 | none => .any := by
  rw [List.getD_eq_getElem?_getD]
  simp [mkT, hj']
 rw [e]
 cases hf : l.find? (fun x => x.1 == j) with
 | none => simp only [rep]
 | some x =>
  have h3 := List.find?_some hf
  have h4 := hl x (List.mem_of_find?_eq_some hf)
  simp only [beq_iff_eq] at h3
  rw [h3] at h4
  show rep L x.2 v
  rw [← h4]; exact h2
section
variable {P : Program} {G : List (Nat × SV)} {sp : Table} {ann : Nat → List Nat} {ls : Nat → Option LoopF}
theorem loop_rule (hsp : TableOK P G sp) (hm : P.follows .mixedOrders = true) (n : Nat) {c : Code} (hls : LsOK P G ls c) {α : Type} (S : α → St) (e : α → Ex) (he : ∀ x, (e x).out ≠ .normal) (T : α → St) (go : α → Bool) (next : α → α)
  (keep : List Nat) (I : α → Prop) (hI : ∀ x, I x → go x = true → I (next x))
  (body : ∀ x, I x → ∀ (K : Ex → St → Option D), (if go x = true then K .normal (S (next x)) else K (e x) (T x)) ≠ none → exec P G sp ann ls n c (S x) (fun e st => K e (canon keep st)) = (if go x = true then K .normal (S (next x)) else K (e x) (T x)))
  (fin : α → α) (hfin : ∀ x, fin x = if go x = true then fin (next x) else x) (m : α → Nat) (hm2 : ∀ x, go x = true → m (next x) < m x) :
  ∀ x, I x → ∀ (w0 : World) (L : List (Option Loc)) (a : Act) (w : World), Glob G w0 → Rel w0 L (S x) a w → ∀ (Q : Exit → Act → World → Prop), (∀ L' a' w', Rel w0 L' (T (fin x)) a' w' → Q (e (fin x)).out a' w') → (Code.loop c).wp P Q a w := by
 classical
 have key : ∀ k x, I x → m x < k → ∀ (w0 : World) (L : List (Option Loc)) (a : Act) (w : World), Glob G w0 → Rel w0 L (S x) a w → ∀ (Q : Exit → Act → World → Prop), (∀ L' a' w', Rel w0 L' (T (fin x)) a' w' → Q (e (fin x)).out a' w') → Code.rounds P c Q k a w := by
  intro k
  induction k with
  | zero => intro x _ h; cases h
  | succ k ih =>
   intro x hix hx w0 L a w hG hrel Q hQ
   rw [rounds_succ]
   by_cases hg : go x = true
   ·have hb := body x hix (fun e' st' => if e' = Ex.normal ∧ st' = S (next x) then some D.any else none) (by simp [hg])
    simp only [hg, if_true, and_self] at hb
    obtain ⟨e', st', h1, h2⟩ := exec_ok hsp hm n c hls (S x) _ D.any hb
    split at h1
    ·rename_i hh
     obtain ⟨rfl, hst⟩ := hh
     refine h2 w0 L a w hG hrel _ fun L' a' w' hr' => ?_
     obtain ⟨L2, hr2⟩ := canon_rel keep hr'
     rw [hst] at hr2
     rw [hfin, if_pos hg] at hQ
     exact ih (next x) (hI x hix hg) (by have := hm2 x hg; omega) w0 L2 a' w' hG hr2 Q hQ
    ·cases h1
   ·have hb := body x hix (fun e' st' => if e' = e x ∧ st' = T x then some D.any else none) (by simp [hg])
    simp only [hg, if_false, and_self, if_true, Bool.false_eq_true] at hb
    obtain ⟨e', st', h1, h2⟩ := exec_ok hsp hm n c hls (S x) _ D.any hb
    split at h1
    ·rename_i hh
     obtain ⟨rfl, hst⟩ := hh
     rw [hfin, if_neg hg] at hQ
     have hne := he x
     refine h2 w0 L a w hG hrel _ fun L' a' w' hr' => ?_
     obtain ⟨L2, hr2⟩ := canon_rel keep hr'
     rw [hst] at hr2
     have hq := hQ L2 a' w' hr2
     revert hq hne
     generalize (e x).out = ex
     intro hne hq
     cases ex <;> first | exact absurd rfl hne | exact hq
    ·cases h1
 intro x hix w0 L a w hG hrel Q hQ
 exact wp_loop_rounds (m x + 1) (key (m x + 1) x hix (Nat.lt_succ_self _) w0 L a w hG hrel Q hQ)
end
end Go.Ev
namespace Go.Ev
open Go.RowKit
def two (F : List D → Option (Bool × D × D)) : Spec := fun ds K => match F ds with
 | some (b, d, e) => if b = true then K d else K e
 | none => none
def left (F : List D → Option (Bool × D × D)) : Spec := guarded fun ds => match F ds with | some (b, d, _) => some (b, d) | none => none
def right (F : List D → Option (Bool × D × D)) : Spec := guarded fun ds => match F ds with | some (b, _, e) => some (!b, e) | none => none
theorem Sound.both {P : Program} {G : List (Nat × SV)} {f : FuncId} {F : List D → Option (Bool × D × D)} (h1 : Sound P G f (left F)) (h2 : Sound P G f (right F)) : Sound P G f (two F) := by
 intro ds K r hK
 unfold two at hK
 split at hK
 ·rename_i b d e hF
  split at hK
  ·rename_i hb
   exact h1 ds K r (by simp only [left, guarded, hF, hb, if_true]; exact hK)
  ·rename_i hb
   exact h2 ds K r (by simp only [right, guarded, hF, hb, Bool.not_false, if_true]; exact hK)
 ·cases hK
theorem Sound.left {P : Program} {G : List (Nat × SV)} {f : FuncId} {F : List D → Option (Bool × D × D)} (h : Sound P G f (two F)) : Sound P G f (left F) := by
 intro ds K r hK
 refine h ds K r ?_
 unfold Go.Ev.left guarded at hK
 unfold two
 split at hK
 ·rename_i b d hF
  dsimp only at hF
  split at hF
  ·rename_i b' d' e' hF'
   simp only [Option.some.injEq, Prod.mk.injEq] at hF
   obtain ⟨rfl, rfl⟩ := hF
   split at hK
   ·rename_i hb; simp only [hb, if_true]; exact hK
   ·cases hK
  ·cases hF
 ·cases hK
theorem Sound.right {P : Program} {G : List (Nat × SV)} {f : FuncId} {F : List D → Option (Bool × D × D)} (h : Sound P G f (two F)) : Sound P G f (right F) := by
 intro ds K r hK
 refine h ds K r ?_
 unfold Go.Ev.right guarded at hK
 unfold two
 split at hK
 ·rename_i b d hF
  dsimp only at hF
  split at hF
  ·rename_i b' d' e' hF'
   simp only [Option.some.injEq, Prod.mk.injEq] at hF
   obtain ⟨rfl, rfl⟩ := hF
   split at hK
   ·rename_i hb
    have hb' : b' = false := by simpa using hb
    simp only [hb', if_false, Bool.false_eq_true]; exact hK
   ·cases hK
  ·cases hF
 ·cases hK
theorem Sound.merge {P : Program} {G : List (Nat × SV)} {f : FuncId} {F : List D → Option (Bool × D × D)} {J : List D → Option D} (h : Sound P G f (two F)) (hj : ∀ ds d, J ds = some d → ∃ b d1 d2, F ds = some (b, d1, d2) ∧ d = if b = true then d1 else d2) : Sound P G f (joined J) := by
 intro ds K r hK
 unfold joined at hK
 split at hK
 ·rename_i d hJ
  obtain ⟨b, d1, d2, hF, rfl⟩ := hj ds d hJ
  refine h ds K r ?_
  simp only [two, hF]
  split at hK
  ·rename_i hb; rw [if_pos hb]; exact hK
  ·rename_i hb; rw [if_neg hb]; exact hK
 ·cases hK
end Go.Ev
namespace Go.Ev
open Go.RowKit
noncomputable def sumG {α : Type} (keep : List Nat) (parse : St → Option (Bool × α)) (d : α → Bool) (e1 : Ex) (T1 : α → St) (e2 : Ex) (T2 : α → St) (fin : α → α) : LoopF := fun st K => match parse (canon keep st) with
 | some (g, x) => if g = true then if d (fin x) = true then K e1 (T1 (fin x)) else K e2 (T2 (fin x)) else none
 | none => none
section
variable {P : Program} {G : List (Nat × SV)} {sp : Table} {ann : Nat → List Nat} {ls : Nat → Option LoopF}
theorem SemOK.rounds (hsp : TableOK P G sp) (hm : P.follows .mixedOrders = true) (n : Nat) {c : Code} (hls : LsOK P G ls c) {α : Type} (S : α → St) (d : α → Bool) (e1 : Ex) (h1 : e1.out ≠ .normal) (T1 : α → St) (e2 : Ex) (h2 : e2.out ≠ .normal) (T2 : α → St)
  (keep : List Nat) (parse : St → Option (Bool × α)) (go : α → Bool) (next : α → α) (I : α → Prop) (hI : ∀ x, I x → go x = true → I (next x))
  (body : ∀ x, I x → ∀ (K : Ex → St → Option D), exec P G sp ann ls n c (S x) (fun e st => K e (canon keep st)) = (if go x = true then K .normal (S (next x)) else if d x = true then K e1 (T1 x) else K e2 (T2 x)))
  (fin : α → α) (hfin : ∀ x, fin x = if go x = true then fin (next x) else x) (m : α → Nat) (hm2 : ∀ x, go x = true → m (next x) < m x)
  (hp : ∀ st x, parse st = some (true, x) → I x ∧ ∀ (w0 : World) (L : List (Option Loc)) (a : Act) (w : World), Rel w0 L st a w → Rel w0 L (S x) a w) :
  SemOK P G c (sumG keep parse d e1 T1 e2 T2 fin) := by
 intro st K r hF
 unfold sumG at hF
 split at hF
 ·rename_i g x hx
  split at hF
  ·rename_i hg
   subst hg
   obtain ⟨hi, hw⟩ := hp _ x hx
   have hne : ∀ x, (if d x = true then e1 else e2).out ≠ .normal := fun x => by split <;> assumption
   have key := loop_rule hsp hm n hls S (fun x => if d x = true then e1 else e2) hne (fun x => if d x = true then T1 x else T2 x) go next keep I hI
    (fun x hix K hK => by
     rw [body x hix K]
     split
     ·rfl
     ·split <;> rfl) fin hfin m hm2 x hi
   by_cases hd : d (fin x) = true
   ·rw [if_pos hd] at hF
    refine ⟨e1, _, hF, fun w0 L a w hG hrel Q hQ => ?_⟩
    obtain ⟨L', hrel'⟩ := canon_rel keep hrel
    exact key w0 L' a w hG (hw w0 L' a w hrel') Q (by simp only [if_pos hd]; exact hQ)
   ·rw [if_neg hd] at hF
    refine ⟨e2, _, hF, fun w0 L a w hG hrel Q hQ => ?_⟩
    obtain ⟨L', hrel'⟩ := canon_rel keep hrel
    exact key w0 L' a w hG (hw w0 L' a w hrel') Q (by simp only [if_neg hd]; exact hQ)
  ·cases hF
 ·cases hF
end
def iter {α : Type} (go : α → Bool) (next : α → α) : Nat → α → α
 | 0, x => x
 | n + 1, x => if go x = true then iter go next n (next x) else x
theorem iter_step {α : Type} {go : α → Bool} {next : α → α} {m : α → Nat} (h : ∀ x, go x = true → m x = m (next x) + 1) (x : α) : iter go next (m x) x = if go x = true then iter go next (m (next x)) (next x) else x := by
 by_cases hg : go x = true
 ·rw [h x hg]; simp only [iter, hg, if_true]
 ·rw [if_neg hg]
  cases m x with
  | zero => rfl
  | succ n => simp only [iter, hg, if_false, Bool.false_eq_true]
theorem SemOK.count {P : Program} {G : List (Nat × SV)} {sp : Table} {ann : Nat → List Nat} {ls : Nat → Option LoopF} (hsp : TableOK P G sp) (hm : P.follows .mixedOrders = true) (n : Nat) {c : Code} (hls : LsOK P G ls c) {α : Type} (S : α → St) (d : α → Bool) (e1 : Ex) (h1 : e1.out ≠ .normal) (T1 : α → St) (e2 : Ex) (h2 : e2.out ≠ .normal) (T2 : α → St)
  (keep : List Nat) (parse : St → Option (Bool × α)) (go : α → Bool) (next : α → α) (I : α → Prop) (hI : ∀ x, I x → go x = true → I (next x))
  (body : ∀ x, I x → ∀ (K : Ex → St → Option D), exec P G sp ann ls n c (S x) (fun e st => K e (canon keep st)) = (if go x = true then K .normal (S (next x)) else if d x = true then K e1 (T1 x) else K e2 (T2 x)))
  (m : α → Nat) (hm2 : ∀ x, go x = true → m x = m (next x) + 1)
  (hp : ∀ st x, parse st = some (true, x) → I x ∧ ∀ (w0 : World) (L : List (Option Loc)) (a : Act) (w : World), Rel w0 L st a w → Rel w0 L (S x) a w) :
  SemOK P G c (sumG keep parse d e1 T1 e2 T2 fun x => iter go next (m x) x) :=
 SemOK.rounds hsp hm n hls S d e1 h1 T1 e2 h2 T2 keep parse go next I hI body _ (iter_step hm2) m (fun x h => by rw [hm2 x h]; exact Nat.lt_succ_self _) hp
theorem iter_inv {α : Type} {go : α → Bool} {next : α → α} {J : α → Prop} (hJ : ∀ x, J x → go x = true → J (next x)) : ∀ (n : Nat) (x : α), J x → J (iter go next n x)
 | 0, x, h => h
 | n + 1, x, h => by
  simp only [iter]
  split
  ·rename_i hg; exact iter_inv hJ n _ (hJ x h hg)
  ·exact h
theorem iter_stop {α : Type} {go : α → Bool} {next : α → α} {m : α → Nat} (hm : ∀ x, go x = true → m x = m (next x) + 1) : ∀ (n : Nat) (x : α), m x = n → go (iter go next n x) = false
 | 0, x, h => by
  simp only [iter]
  cases hg : go x
  ·rfl
  ·have := hm x hg; omega
 | n + 1, x, h => by
  simp only [iter]
  split
  ·rename_i hg; exact iter_stop hm n _ (by have := hm x hg; omega)
  ·rename_i hg; simpa using hg
def run {α : Type} (next : α → α) : Nat → α → α
 | 0, x => x
 | n + 1, x => run next n (next x)
theorem iter_run {α : Type} {go : α → Bool} {next : α → α} : ∀ (n : Nat) (x : α), (∀ k, k < n → go (run next k x) = true) → iter go next n x = run next n x
 | 0, _, _ => rfl
 | n + 1, x, h => by
  have h0 : go x = true := h 0 (Nat.succ_pos n)
  simp only [iter, h0, if_true, run]
  exact iter_run n (next x) fun k hk => h (k + 1) (by omega)
def Pt (P : Program) (G : List (Nat × SV)) (f : FuncId) (ds : List D) (d : D) : Prop := ∀ (w : World) (args : List Value), Glob G w → lie none w ds args → CallGo P f args w d
section
variable {P : Program} {G : List (Nat × SV)} {f : FuncId}
theorem Sound.pt {s : Spec} (hs : Sound P G f s) {ds : List D} {d : D} (h : s ds some = some d) : Pt P G f ds d := by
 obtain ⟨d', h1, h2⟩ := hs ds some d h
 cases h1
 exact h2
theorem Sound.of_pt {F : List D → Option D} (h : ∀ ds d, F ds = some d → Pt P G f ds d) : Sound P G f (joined F) := by
 intro ds K r hK
 unfold joined at hK
 split at hK
 ·rename_i d hF
  exact ⟨d, hK, h ds d hF⟩
 ·cases hK
theorem Sound.of_ptG {F : List D → Option (Bool × D)} (h : ∀ ds d, F ds = some (true, d) → Pt P G f ds d) : Sound P G f (guarded F) := by
 intro ds K r hK
 unfold guarded at hK
 split at hK
 ·rename_i b d hF
  split at hK
  ·rename_i hb
   subst hb
   exact ⟨d, hK, h ds d hF⟩
  ·cases hK
 ·cases hK
theorem Sound.of_ptT {F : List D → Option (Bool × D × D)} (h : ∀ ds b d e, F ds = some (b, d, e) → Pt P G f ds (if b = true then d else e)) : Sound P G f (two F) := by
 intro ds K r hK
 unfold two at hK
 split at hK
 ·rename_i b d e hF
  split at hK
  ·rename_i hb
   exact ⟨d, hK, by have := h ds b d e hF; rw [if_pos hb] at this; exact this⟩
  ·rename_i hb
   exact ⟨e, hK, by have := h ds b d e hF; rw [if_neg hb] at this; exact this⟩
 ·cases hK
end
end Go.Ev
namespace Go.Ev
open Go.RowKit Go.ChangeShapes Go.WideShapes
section
variable {H : Type} {enc : TypeId × Value → H} {P : Program}
theorem trodAll_stays (hl : laidOutB P = true) {W W' : World} (hb : Below W.heap.size W W') {sp : Nat → Bool} : ∀ {ts : List TypeId} {vs : List Value} {ds : List (DataW H)} {ps : List MemPlace},
  (∀ t ∈ ts, P.readableRec t = true ∧ t < P.types.size) → DataW.TrodAll enc P W 0 (fun _ => true) true ts vs ds ps → (∀ x ∈ ps, x.block < W.heap.size) → (∀ x ∈ ps, sp x.block = true) →
  DataW.TrodAll enc P W' 0 sp true ts vs ds ps
 | [], vs, ds, ps, _, h, _, _ => by
  obtain ⟨rfl, rfl, rfl⟩ := trodAll_nil h
  rfl
 | t :: ts, vs, ds, ps, ht, h, hlt, hsp => by
  obtain ⟨v, vs', d, ds', p, q, rfl, rfl, rfl, h1, h2⟩ := trodAll_cons h
  obtain ⟨hr, hrow⟩ := ht t List.mem_cons_self
  exact ⟨p, q, WideElems.Trod_stays hl hr hrow h1 (fun x hx => hb.same (hlt x (List.mem_append_left _ hx))) (fun x hx => hsp x (List.mem_append_left _ hx)),
   trodAll_stays hl hb (fun u hu => ht u (List.mem_cons_of_mem _ hu)) h2 (fun x hx => hlt x (List.mem_append_right _ hx)) (fun x hx => hsp x (List.mem_append_right _ hx)), rfl⟩
theorem post_law {f : Func} {s : ChangeSpec} {apart fresh handsOn again : Bool} {W W' : World} {args : Array Value} {ds gs : List (DataW H)} {before : List MemPlace} {b : TypeId}
  (hW : DataW.Whole enc P f.params.toList s.vars apart W args.toList ds gs before) (hb : Below W.heap.size W W') (hl : laidOutB P = true) (hpb : f.params.toList.all (fun t => P.readableRec t && decide (t < P.types.size)) = true)
  (hvars : s.vars = []) (hr : f.resultTypes = #[b]) (hbt : P.underlying b = some .bool) (hfn : s.fn H ds = { results := [.lit (.bool true)], args := ds }) :
  s.post enc P f apart fresh handsOn again W args (.bool true) W' := by
 have hp : ∀ t ∈ f.params.toList, P.readableRec t = true ∧ t < P.types.size := fun t ht => by simpa using List.all_eq_true.1 hpb t ht
 have hlt : ∀ x ∈ before, x.block < W.heap.size := fun x hx => by simpa using hW.lt x hx
 have hW0 := hW
 obtain ⟨p, q, hA, hV, rfl, hz, hn⟩ := hW
 rw [hvars] at hV
 obtain ⟨rfl, rfl⟩ := trodVars_none hV
 simp only [List.append_nil] at hlt hz hn hW0
 have hold : ∀ x ∈ p, (fun b => decide (b < W.heap.size)) x.block = true := fun x hx => by simpa using hlt x hx
 have hargs : ∀ sp : Nat → Bool, (∀ x ∈ p, sp x.block = true) → DataW.TrodAll enc P W' 0 sp true f.params.toList args.toList ds p := fun sp hsp => trodAll_stays hl hb hp hA hlt hsp
 have hres : ∀ (b' : Nat) (sp : Nat → Bool) (hd : Bool), DataW.TrodAll enc P W' b' sp hd f.resultTypes.toList ((Value.bool true).resultList f.resultTypes.size) [.lit (.bool true)] [] := fun b' sp hd => by
  rw [hr]
  exact trodAll_mk1 (shut_bool hbt _)
 have hvs : ∀ sp : Nat → Bool, DataW.TrodVars enc P W' sp s.vars [] [] := fun sp => by rw [hvars]; rfl
 refine ⟨ds, [], p, [], p, [], by simpa using hW0, ?_, ?_, ?_, World.keptBut_mono (fun x hx => ⟨hx, .inr (.inl hx)⟩) (hb.frame (· ∈ p)), fun _ => ?_⟩
 ·rw [List.append_nil, hfn]; exact hres _ _ _
 ·rw [List.append_nil, hfn]; exact hargs _ hold
 ·rw [List.append_nil, hfn]; exact hvs _
 ·refine ⟨ok_one hr rfl (okWide_bool_mk hbt _), _, _, ([] ++ p) ++ [], ⟨[] ++ p, [], trodAll_append (hargs _ (fun _ _ => rfl)) (hres _ _ _), hvs _, rfl, ?_, ?_⟩, ?_⟩
  ·intro b' off hp'
   simp only [List.nil_append, List.append_nil] at hp'
   rw [hb.frozen (hlt _ hp')]
   exact hz b' off hp'
  ·intro ha
   simpa using hn ha
  ·intro x hx _
   simpa using hx
theorem u64_of_wf {n : Int} (h : (Lit.int .u64 n).wf = true) : ∃ x : BitVec 64, n = (x.toNat : Int) := by
 simp only [Lit.wf, Bool.and_eq_true, decide_eq_true_eq] at h
 have h1 : (0 : Int) ≤ n := h.1
 have h2 : n ≤ 18446744073709551615 := h.2
 refine ⟨BitVec.ofNat 64 n.toNat, ?_⟩
 rw [BitVec.toNat_ofNat, Nat.mod_eq_of_lt (by omega)]
 omega
theorem u8_of_wf {n : Int} (h : (Lit.int .u8 n).wf = true) : ∃ x : BitVec 8, n = (x.toNat : Int) := by
 simp only [Lit.wf, Bool.and_eq_true, decide_eq_true_eq] at h
 have h1 : (0 : Int) ≤ n := h.1
 have h2 : n ≤ 255 := h.2
 refine ⟨BitVec.ofNat 8 n.toNat, ?_⟩
 rw [BitVec.toNat_ofNat, Nat.mod_eq_of_lt (by omega)]
 omega
variable {W : World} {base b0 : Nat} {spare : Nat → Bool} {held : Bool} {r : Reach} {own : Option Nat} {v : Value} {d : DataW H} {p : List MemPlace} {t : TypeId}
theorem arg_u8 (ht : P.underlying t = some (.int .u8)) (hv : Value.okWide P W r b0 t v) (h : DataW.Trod enc P W base spare held t v d p) : ∃ x : BitVec 8, lies own W (.u8 x) v := by
 obtain ⟨n, rfl, _, _, hw⟩ := open_int ht hv h
 obtain ⟨x, rfl⟩ := u8_of_wf hw
 exact ⟨x, by simp only [lies]⟩
theorem arg_vec {f0 f1 : Field} (ht : P.underlying t = some (.struct #[f0, f1])) (hone : Go.Deep.oneCellFields P #[f0, f1] = true) (hC : P.cellsOf t = 2) (h0 : P.underlying f0.type = some (.int .u64)) (h1 : P.underlying f1.type = some (.int .u64))
  (hv : Value.okWide P W r b0 t v) (h : DataW.Trod enc P W base spare held t v d p) : ∃ x y : BitVec 64, lies own W (.agg [.u64 x, .u64 y]) v := by
 obtain ⟨cs, rfl, hsz⟩ := okWide_struct ht hv
 obtain ⟨v0, v1, rfl⟩ : ∃ a b, cs = #[a, b] := by
  obtain ⟨l⟩ := cs
  have hl : l.length = 2 := hsz.trans hC
  match l, hl with
  | [a, b], _ => exact ⟨a, b, rfl⟩
 obtain ⟨fuel, hf⟩ := h
 obtain ⟨y0, y1, n, _, _, t0, t1⟩ := trod_struct2 ht hf
 obtain ⟨o0, k0⟩ := Go.Deep.hone_of hone 0 f0 rfl
 obtain ⟨o1, k1⟩ := Go.Deep.hone_of hone 1 f1 rfl
 rw [o0, k0] at t0
 rw [o1, k1] at t1
 simp only [Value.cells, List.drop_zero, List.take_succ_cons, List.take_zero, List.drop_succ_cons] at t0 t1
 obtain ⟨a, e0, _, w0⟩ := DataW.trod_int h0 t0
 obtain ⟨b, e1, _, w1⟩ := DataW.trod_int h1 t1
 cases e0; cases e1
 obtain ⟨x, rfl⟩ := u64_of_wf w0
 obtain ⟨y, rfl⟩ := u64_of_wf w1
 exact ⟨x, y, by simp only [lies, lie]; exact ⟨_, rfl, _, _, rfl, rfl, _, _, rfl, rfl, rfl⟩⟩
theorem okWide_arr {n : Nat} {e : TypeId} (ht : P.underlying t = some (.array n e)) (h : Value.okWide P W r b0 t v) : ∃ cs, v = .agg cs ∧ cs.size = P.cellsOf t := by
 simp only [Value.okWide, ht] at h
 obtain ⟨cs, h1, h2, _⟩ := h
 exact ⟨cs, h1, h2⟩
theorem u8s_list : ∀ (cs : List Value), (∀ j, j < cs.length → ∃ x : BitVec 8, cs[j]? = some (v8 x)) → ∃ l : List (BitVec 8), cs = l.map v8
 | [], _ => ⟨[], rfl⟩
 | c :: cs, h => by
  obtain ⟨x, hx⟩ := h 0 (by simp)
  obtain ⟨l, hl⟩ := u8s_list cs fun j hj => by
   obtain ⟨y, hy⟩ := h (j + 1) (by simpa using hj)
   exact ⟨y, by simpa using hy⟩
  simp only [List.getElem?_cons_zero, Option.some.injEq] at hx
  exact ⟨x :: l, by rw [hx, hl]; rfl⟩
theorem arg_u8s {n : Nat} {e : TypeId} (ht : P.underlying t = some (.array n e)) (he : P.underlying e = some (.int .u8)) (hc : P.cellsOf e = 1) (hC : P.cellsOf t = n) (hv : Value.okWide P W r b0 t v) (h : DataW.Trod enc P W base spare held t v d p) :
  ∃ l : List (BitVec 8), l.length = n ∧ lies own W (.a8 l) v := by
 obtain ⟨⟨cs⟩, rfl, hsz⟩ := okWide_arr ht hv
 obtain ⟨fuel, hf⟩ := h
 obtain ⟨xs, m, _, _, hlen, hn, hel⟩ := DataW.trod_array ht hf
 simp only [Value.cells] at hlen hel
 have hn' : cs.length = n := by simpa using hsz.trans hC
 obtain ⟨l, rfl⟩ := u8s_list cs fun j hj => by
  have h1 := hel j (by omega)
  rw [hc, Nat.mul_one, List.getElem?_eq_getElem (by omega : j < xs.length)] at h1
  obtain ⟨i, e1, _, e3⟩ := DataW.trod_int he h1
  obtain ⟨x, rfl⟩ := u8_of_wf e3
  refine ⟨x, ?_⟩
  have h3 : (cs.drop j).head? = some (v8 x) := by
   cases hd : cs.drop j with
   | nil => rw [hd] at e1; simp at e1
   | cons a b => rw [hd] at e1; simp at e1; simp [e1, v8]
  rw [List.head?_drop] at h3
  exact h3
 exact ⟨l, by simpa using hn', by simp only [lies]⟩
theorem ints_of_trod {n : Nat} {e : TypeId} {k : IntKind} {fuel : Nat} {cs : List Value} {l : List Int} {q : List MemPlace} (ht : P.underlying t = some (.array n e)) (he : P.underlying e = some (.int k)) (hc : P.cellsOf e = 1)
  (h : DataW.trod enc P W base spare held fuel t cs = some (.agg (l.map fun i => .lit (.int k i)), q)) : ∀ j, j < l.length → cs[j]? = some (.int k (l.getD j 0)) := by
 obtain ⟨xs, m, _, hx, _, hn, hel⟩ := DataW.trod_array ht h
 intro j hj
 simp only [Prod.mk.injEq, DataW.agg.injEq] at hx
 have hxs : xs.length = l.length := by have := congrArg List.length hx.1; simpa using this.symm
 have h1 := hel j (by omega)
 rw [hc, Nat.mul_one, List.getElem?_eq_getElem (by omega : j < xs.length)] at h1
 obtain ⟨i, e1, e2, _⟩ := DataW.trod_int he h1
 have h2 := congrArg (fun z => z[j]?) hx.1
 simp only [List.getElem?_map, List.getElem?_eq_getElem hj, List.getElem?_eq_getElem (by omega : j < xs.length), Option.map_some, Option.some.injEq] at h2
 rw [e2] at h2
 simp only [DataW.lit.injEq, Lit.int.injEq, true_and] at h2
 have h3 : (cs.drop j).head? = some (.int k i) := by
  cases hd : cs.drop j with
  | nil => rw [hd] at e1; simp at e1
  | cons a b => rw [hd] at e1; simp at e1; simp [e1]
 rw [List.head?_drop] at h3
 rw [h3, List.getD_eq_getElem?_getD, List.getElem?_eq_getElem hj]
 simp [h2]
end
end Go.Ev
namespace Go.Ev
open Go.RowKit Go.ChangeShapes Go.WideShapes
section
variable {H : Type} {enc : TypeId × Value → H} {P : Program}
variable {W : World} {base b0 : Nat} {held : Bool} {r : Reach} {v : Value} {d : DataW H} {p : List MemPlace} {t : TypeId}
end
end Go.Ev
namespace Go.Ev
open Go.RowKit
section
variable {P : Program} {G : List (Nat × SV)} {f : FuncId} {fn : Func} {e : Array Value → Sem Value}
structure ExtF (P : Program) (f : FuncId) (e : Array Value → Sem Value) : Prop where
 out : ∃ fn, P.funcs[f]? = some fn ∧ (fn.name == "runtime.NumGoroutine") = false ∧ fn.body.isNone = true ∧ Extern.findNext fn = none ∧ Extern.find fn = some e
theorem ExtF.pt (x : ExtF P f e) {ds : List D} {d : D} (h : ∀ w args, lie none w ds args → ∃ v w', (e ⟨args⟩).run P w = .ok v w' ∧ Below w.heap.size w w' ∧ lies (some w.heap.size) w' d v) : Pt P G f ds d := by
 obtain ⟨fn, hf, hname, hb, hn, he⟩ := x.out
 intro w args _ hl
 obtain ⟨v, w', h1, h2, h3⟩ := h w args hl
 refine .inl ⟨v, w', ?_, h2, h3⟩
 rw [run_callFunc_extern hf hname hb hn he, h1]
 rfl
noncomputable def to64S : Spec := joined fun | [.u64 x] => some (.f .f64 x.toNat) | _ => none
noncomputable def to32S : Spec := joined fun | [.u32 x] => some (.f .f32 x.toNat) | _ => none
def nanI (k : FloatKind) (n : Int) : Prop := ∃ x : Nat, n = (x : Int) ∧ nanOK k x
noncomputable def of64S : Spec := guarded fun
 | [.f .f64 n] => some (decide (n < 2 ^ 64), .u64 (BitVec.ofNat 64 n))
 | [.nan .f64] => some (true, .xi .u64 (nanI .f64))
 | _ => none
noncomputable def of32S : Spec := guarded fun
 | [.f .f32 n] => some (decide (n < 2 ^ 32), .u32 (BitVec.ofNat 32 n))
 | [.nan .f32] => some (true, .xi .u32 (nanI .f32))
 | [.xf .f32 p] => some (true, .xi .u32 (fun n => ∃ x : Nat, n = (x : Int) ∧ p x))
 | _ => none
theorem to64_ok (x : ExtF P f Extern.MathFloatBits.float64frombits) : Sound P G f to64S := by
 refine Sound.of_pt fun ds d hd => ?_
 split at hd
 ·rename_i n
  cases hd
  refine x.pt fun w args hl => ?_
  simp only [lie, lies] at hl
  obtain ⟨v, t, rfl, rfl, rfl⟩ := hl
  exact ⟨_, w, rfl, Below.refl _ _, by simp only [lies]; rfl⟩
 ·cases hd
theorem to32_ok (x : ExtF P f Extern.MathFloatBits.float32frombits) : Sound P G f to32S := by
 refine Sound.of_pt fun ds d hd => ?_
 split at hd
 ·rename_i n
  cases hd
  refine x.pt fun w args hl => ?_
  simp only [lie, lies] at hl
  obtain ⟨v, t, rfl, rfl, rfl⟩ := hl
  exact ⟨_, w, rfl, Below.refl _ _, by simp only [lies]; rfl⟩
 ·cases hd
theorem of64_ok (x : ExtF P f Extern.MathFloatBits.float64bits) : Sound P G f of64S := by
 refine Sound.of_ptG fun ds d hd => ?_
 split at hd
 ·rename_i n
  simp only [Option.some.injEq, Prod.mk.injEq, decide_eq_true_eq] at hd
  obtain ⟨hn, rfl⟩ := hd
  refine x.pt fun w args hl => ?_
  simp only [lie, lies] at hl
  obtain ⟨v, t, rfl, rfl, rfl⟩ := hl
  refine ⟨_, w, rfl, Below.refl _ _, ?_⟩
  simp only [lies]
  rw [BitVec.toNat_ofNat, Nat.mod_eq_of_lt hn]
 ·simp only [Option.some.injEq, Prod.mk.injEq] at hd
  obtain ⟨_, rfl⟩ := hd
  refine x.pt fun w args hl => ?_
  simp only [lie, lies] at hl
  obtain ⟨v, t, rfl, ⟨b, rfl, hb⟩, rfl⟩ := hl
  exact ⟨_, w, rfl, Below.refl _ _, by simp only [lies]; exact ⟨_, rfl, b, rfl, hb⟩⟩
 ·cases hd
theorem of32_ok (x : ExtF P f Extern.MathFloatBits.float32bits) : Sound P G f of32S := by
 refine Sound.of_ptG fun ds d hd => ?_
 split at hd
 ·rename_i n
  simp only [Option.some.injEq, Prod.mk.injEq, decide_eq_true_eq] at hd
  obtain ⟨hn, rfl⟩ := hd
  refine x.pt fun w args hl => ?_
  simp only [lie, lies] at hl
  obtain ⟨v, t, rfl, rfl, rfl⟩ := hl
  refine ⟨_, w, rfl, Below.refl _ _, ?_⟩
  simp only [lies]
  rw [BitVec.toNat_ofNat, Nat.mod_eq_of_lt hn]
 ·simp only [Option.some.injEq, Prod.mk.injEq] at hd
  obtain ⟨_, rfl⟩ := hd
  refine x.pt fun w args hl => ?_
  simp only [lie, lies] at hl
  obtain ⟨v, t, rfl, ⟨b, rfl, hb⟩, rfl⟩ := hl
  exact ⟨_, w, rfl, Below.refl _ _, by simp only [lies]; exact ⟨_, rfl, b, rfl, hb⟩⟩
 ·simp only [Option.some.injEq, Prod.mk.injEq] at hd
  obtain ⟨_, rfl⟩ := hd
  refine x.pt fun w args hl => ?_
  simp only [lie, lies] at hl
  obtain ⟨v, t, rfl, ⟨b, rfl, hb⟩, rfl⟩ := hl
  exact ⟨_, w, rfl, Below.refl _ _, by simp only [lies]; exact ⟨_, rfl, b, rfl, hb⟩⟩
 ·cases hd
end
end Go.Ev
namespace Go.Ev
open Go.RowKit
def splitK (keep : List Nat) (N : St → Option D) (E : Nat → St → Option D) (R : St → Option D) : Ex → St → Option D := fun e st => match e with
 | .normal => N (canon keep st)
 | .exit j => E j st
 | .ret => R st
section
variable {P : Program} {G : List (Nat × SV)} {sp : Table} {ann : Nat → List Nat} {ls : Nat → Option LoopF}
open Classical in
noncomputable def searchF (P : Program) (G : List (Nat × SV)) (sp : Table) (ann : Nat → List Nat) (ls : Nat → Option LoopF) (n : Nat) (c : Code) (keep : List Nat) {α : Type} (S : Nat → α → St) (len : α → Nat) (out : Nat → α → Bool) (x : Nat) (Send : α → St) : LoopF := fun st K =>
 if h : ∃ a, canon keep st = S 0 a then
  match (List.range (len (Classical.choose h))).find? (fun k => !out k (Classical.choose h)) with
  | none => K (.exit x) (Send (Classical.choose h))
  | some j => exec P G sp ann ls n c (S j (Classical.choose h)) (fun e st' => match e with | .ret => K .ret st' | _ => none)
 else none
theorem searchF_at {c : Code} {keep : List Nat} {α : Type} {S : Nat → α → St} {len : α → Nat} {out : Nat → α → Bool} {x : Nat} {Send : α → St} {n : Nat} (inj : ∀ a b, S 0 a = S 0 b → a = b) {st : St} {a : α} (h : canon keep st = S 0 a) (K : Ex → St → Option D) :
  searchF P G sp ann ls n c keep S len out x Send st K = match (List.range (len a)).find? (fun k => !out k a) with
  | none => K (.exit x) (Send a)
  | some j => exec P G sp ann ls n c (S j a) (fun e st' => match e with | .ret => K .ret st' | _ => none) := by
 have hex : ∃ a, canon keep st = S 0 a := ⟨a, h⟩
 have e : Classical.choose hex = a := inj _ _ ((Classical.choose_spec hex).symm.trans h)
 unfold searchF
 rw [dif_pos hex, e]
open Classical in
theorem SemOK.search (hm : P.follows .mixedOrders = true) (n : Nat) {c : Code} {sp1 sp2 : Table} {ls1 ls2 : Nat → Option LoopF} {ann1 ann2 : Nat → List Nat} (hsp1 : TableOK P G sp1) (hsp2 : TableOK P G sp2) (hls1 : LsOK P G ls1 c) (hls2 : LsOK P G ls2 c)
  {keep : List Nat} {α : Type} {S : Nat → α → St} {len : α → Nat} {out : Nat → α → Bool} {x : Nat} {Send : α → St}
  (hskip : ∀ k a, k < len a → out k a = true → ∀ N E R, exec P G sp1 ann1 ls1 n c (S k a) (splitK keep N E R) = N (S (k + 1) a))
  (hend : ∀ a N E R, exec P G sp1 ann1 ls1 n c (S (len a) a) (splitK keep N E R) = E x (Send a)) :
  SemOK P G c (searchF P G sp2 ann2 ls2 n c keep S len out x Send) := by
 intro st K r hF
 unfold searchF at hF
 split at hF
 ·rename_i hex
  generalize ha : Classical.choose hex = a at hF
  have hst : canon keep st = S 0 a := by rw [← ha]; exact Classical.choose_spec hex
  -- the rounds that pass by
  have pass : ∀ (d j : Nat), (∀ k, k < j + d → k < len a) → (∀ k, k < j + d → out k a = true) → ∀ (m : Nat) (w0 : World) (L : List (Option Loc)) (ac : Act) (w : World), Glob G w0 → Rel w0 L (S j a) ac w → ∀ (Q : Exit → Act → World → Prop),
    (∀ L' a' w', Rel w0 L' (S (j + d) a) a' w' → Code.rounds P c Q m a' w') → Code.rounds P c Q (m + d) ac w := by
   intro d
   induction d with
   | zero => intro j _ _ m w0 L ac w _ hrel Q hQ; exact hQ L ac w hrel
   | succ d ih =>
    intro j hlt hout m w0 L ac w hG hrel Q hQ
    have hk := hskip j a (hlt j (by omega)) (hout j (by omega)) (fun s => if s = S (j + 1) a then some .any else none) (fun _ _ => none) (fun _ => none)
    rw [if_pos rfl] at hk
    obtain ⟨e, st', h1, h2⟩ := exec_ok hsp1 hm n c hls1 _ _ _ hk
    cases e with
    | exit j => cases h1
    | ret => cases h1
    | normal =>
     simp only [splitK] at h1
     split at h1
     ·rename_i hs
      rw [show m + (d + 1) = (m + d) + 1 by omega, rounds_succ]
      refine h2 w0 L ac w hG hrel _ fun L' a' w' hr' => ?_
      obtain ⟨L2, hr2⟩ := canon_rel keep hr'
      rw [hs] at hr2
      exact ih (j + 1) (fun k hk => hlt k (by omega)) (fun k hk => hout k (by omega)) m w0 L2 a' w' hG hr2 Q (fun L3 a3 w3 hr3 => hQ L3 a3 w3 (by rw [show j + (d + 1) = j + 1 + d by omega]; exact hr3))
     ·cases h1
  split at hF
  ·rename_i hnone
   have hall : ∀ k, k < len a → out k a = true := by
    intro k hk
    have := List.find?_eq_none.1 hnone k (List.mem_range.2 hk)
    simpa using this
   refine ⟨.exit x, Send a, hF, fun w0 L ac w hG hrel Q hQ => ?_⟩
   obtain ⟨L1, hr1⟩ := canon_rel keep hrel
   rw [hst] at hr1
   refine wp_loop_rounds (1 + len a) ?_
   refine pass (len a) 0 (fun k hk => by omega) (fun k hk => hall k (by omega)) 1 w0 L1 ac w hG hr1 Q fun L2 a2 w2 hr2 => ?_
   rw [Nat.zero_add] at hr2
   have he := hend a (fun _ => none) (fun j s => if j = x ∧ s = Send a then some .any else none) (fun _ => none)
   rw [if_pos ⟨rfl, rfl⟩] at he
   obtain ⟨e, st', h1, h2⟩ := exec_ok hsp1 hm n c hls1 _ _ _ he
   cases e with
   | normal => cases h1
   | ret => cases h1
   | exit j =>
    simp only [splitK] at h1
    split at h1
    ·rename_i hs
     obtain ⟨rfl, rfl⟩ := hs
     rw [show (1 : Nat) = 0 + 1 from rfl, rounds_succ]
     exact h2 w0 L2 a2 w2 hG hr2 _ fun L3 a3 w3 hr3 => hQ L3 a3 w3 hr3
    ·cases h1
  ·rename_i j hj
   have hjlt : j < len a := List.mem_range.1 (List.mem_of_find?_eq_some hj)
   have hbefore : ∀ k, k < j → out k a = true := by
    intro k hk
    have h1 := List.find?_eq_some_iff_getElem.1 hj
    obtain ⟨_, i, hi, h3, h4⟩ := h1
    have hi' : i = j := by simpa using h3
    have := h4 k (by omega)
    simpa using this
   obtain ⟨e, st', h1, h2⟩ := exec_ok hsp2 hm n c hls2 _ _ _ hF
   cases e with
   | normal => cases h1
   | exit _ => cases h1
   | ret =>
    refine ⟨.ret, st', h1, fun w0 L ac w hG hrel Q hQ => ?_⟩
    obtain ⟨L1, hr1⟩ := canon_rel keep hrel
    rw [hst] at hr1
    refine wp_loop_rounds (1 + j) ?_
    refine pass j 0 (fun k hk => by omega) (fun k hk => hbefore k (by omega)) 1 w0 L1 ac w hG hr1 Q fun L2 a2 w2 hr2 => ?_
    rw [Nat.zero_add] at hr2
    rw [show (1 : Nat) = 0 + 1 from rfl, rounds_succ]
    exact h2 w0 L2 a2 w2 hG hr2 _ fun L3 a3 w3 hr3 => hQ L3 a3 w3 hr3
 ·cases hF
end
end Go.Ev
namespace Go.Ev
open Go.RowKit Go.ChangeShapes Go.WideShapes
def pairD (x y : Nat → BitVec 64) : Nat → Nat → List D
 | _, 0 => []
 | i, k + 1 => .u64 (x i) :: .u64 (y i) :: pairD x y (i + 1) k
theorem pairD_length (x y : Nat → BitVec 64) : ∀ (k i : Nat), (pairD x y i k).length = 2 * k
 | 0, _ => rfl
 | k + 1, i => by simp only [pairD, List.length_cons, pairD_length x y k (i + 1)]; omega
theorem pairD_lie {w : World} {b o : Nat} {x y : Nat → BitVec 64} {n : Nat} (h : ∀ i, i < n → w.cell? ⟨b, o + i * 2, none⟩ = some (v64 (x i)) ∧ w.cell? ⟨b, o + i * 2 + 1, none⟩ = some (v64 (y i))) :
  ∀ (k i : Nat), i + k ≤ n → lieAt none w b (o + i * 2) (pairD x y i k)
 | 0, _, _ => trivial
 | k + 1, i, hk => by
  obtain ⟨h1, h2⟩ := h i (by omega)
  simp only [pairD, lieAt]
  refine ⟨⟨_, h1, by simp only [lies, v64]⟩, ⟨_, h2, by simp only [lies, v64]⟩, ?_⟩
  have := pairD_lie h k (i + 1) (by omega)
  rw [show o + i * 2 + 1 + 1 = o + (i + 1) * 2 by omega]
  exact this
section
variable {H : Type} {enc : TypeId × Value → H} {P : Program}
variable {W : World} {base b0 : Nat} {held : Bool} {r : Reach} {v : Value} {d : DataW H} {p : List MemPlace} {t : TypeId}
theorem arg_slvec {e : TypeId} {f0 f1 : Field} (ht : P.underlying t = some (.slice e)) (he : P.underlying e = some (.struct #[f0, f1])) (ce : P.cellsOf e = 2) (o0 : f0.offset = 0) (o1 : f1.offset = 1) (c0 : P.cellsOf f0.type = 1) (c1 : P.cellsOf f1.type = 1)
  (h0 : P.underlying f0.type = some (.int .u64)) (h1 : P.underlying f1.type = some (.int .u64)) (hv : Value.okWide P W r b0 t v) (h : DataW.Trod enc P W base (fun _ => true) held t v d p) :
  lies none W (.c (.slice none 0 0)) v ∨ (∃ a, lies none W (.c (.slice (some a) 0 0)) v) ∨
  ∃ (n : Nat) (x y : Nat → BitVec 64), n ≤ maxLen ∧ ∀ k, k ≤ n → lies none W (.slm 2 n (pairD x y 0 k)) v := by
 obtain ⟨a, len, cap, rfl⟩ := okWide_slice ht hv
 obtain ⟨fuel, hf⟩ := h
 simp only [Value.cells] at hf
 rcases Go.Deep.open_slice_pairs ht he ce o0 o1 c0 c1 hf with ⟨e1, _⟩ | ⟨a', len', cap', m, n, V0, V1, D0, D1, P0, P1, e1, _, hle, hmax, hm, _, hx⟩
 ·simp only [List.cons.injEq, Value.slice.injEq, and_true] at e1
  obtain ⟨rfl, rfl, rfl⟩ := e1
  exact .inl (by simp only [lies])
 ·simp only [List.cons.injEq, Value.slice.injEq, and_true] at e1
  obtain ⟨rfl, rfl, rfl⟩ := e1
  simp only [if_true] at hm
  subst hm
  right
  rcases Nat.eq_zero_or_pos m with rfl | hpos
  ·obtain rfl : len = 0 := by omega
   exact .inl ⟨a', by simp only [lies]⟩
  ·right
   have each : ∀ i, i < m → ∃ q : BitVec 64 × BitVec 64, V0 i = v64 q.1 ∧ V1 i = v64 q.2 := by
    intro i hi
    obtain ⟨_, _, t0, t1⟩ := hx i hi
    obtain ⟨a, e0, _, w0⟩ := DataW.trod_int h0 t0
    obtain ⟨b, e1, _, w1⟩ := DataW.trod_int h1 t1
    simp only [List.cons.injEq, and_true] at e0 e1
    obtain ⟨x, rfl⟩ := u64_of_wf w0
    obtain ⟨y, rfl⟩ := u64_of_wf w1
    exact ⟨(x, y), e0, e1⟩
   obtain ⟨q, hq⟩ : ∃ q : Nat → BitVec 64 × BitVec 64, ∀ i, i < m → V0 i = v64 (q i).1 ∧ V1 i = v64 (q i).2 := by
    refine ⟨fun i => if hi : i < m then Classical.choose (each i hi) else (0, 0), fun i hi => ?_⟩
    simp only [hi, dif_pos]
    exact Classical.choose_spec (each i hi)
   obtain ⟨b, o, spot⟩ := a'
   have cell0 := (hx 0 hpos).1
   have hspot : spot = none ∧ b < W.heap.size := by
    have e0 : (⟨b, o, spot⟩ : Addr).add (0 * 2) = ⟨b, o, spot⟩ := by simp [Addr.add]
    rw [e0] at cell0
    unfold World.cell? at cell0
    split at cell0
    ·rename_i hb
     by_cases hs : spot.isSome = true
     ·simp [hs] at cell0
     ·refine ⟨by cases spot <;> simp_all, ?_⟩
      rcases Nat.lt_or_ge b W.heap.size with hlt | hge
      ·exact hlt
      ·rw [Array.getElem?_eq_none (by simpa using hge)] at hb; cases hb
    ·cases cell0
   obtain ⟨rfl, hb⟩ := hspot
   have eadd : ∀ j, (⟨b, o, none⟩ : Addr).add j = ⟨b, o + j, none⟩ := fun j => by
    unfold Addr.add
    split
    ·rename_i h0; simp [h0]
    ·rfl
   refine ⟨len, fun i => (q i).1, fun i => (q i).2, by omega, fun k hk => ?_⟩
   simp only [lies]
   refine ⟨b, o, m, rfl, hb, hle, ?_, by rw [pairD_length]; omega, fun _ h => by cases h⟩
   have := pairD_lie (w := W) (b := b) (o := o) (x := fun i => (q i).1) (y := fun i => (q i).2) (n := len) (fun i hi => ?_) k 0 (by omega)
   ·simpa using this
   ·obtain ⟨g1, g2, _, _⟩ := hx i (by omega)
    rw [eadd] at g1 g2
    rw [(hq i (by omega)).1] at g1
    rw [(hq i (by omega)).2] at g2
    exact ⟨g1, by rw [Nat.add_assoc]; exact g2⟩
end
end Go.Ev

/-
  Part of the proof; what its functions and lemmas say stands in the text.
-/
import Derived.Test.YtakonchpkchfhaaDoorEv18
set_option linter.unusedSimpArgs false
set_option linter.unusedVariables false
/-!
Code and functions.
-/
namespace Go.Ev
open Go.RowKit

inductive Ex where
  | normal
  | exit (id : Nat)
  | ret
def Ex.out : Ex → Exit
  | .normal => .normal
  | .exit id => .exit id
  | .ret => .ret

def firstId : Code → Nat
  | .region id _ _ => id
  | .seq a _ => firstId a
  | .block _ c => firstId c
  | .loop c => firstId c
  | .scope c => firstId c
  | _ => 0

def loopN (body : St → (Ex → St → Option D) → Option D) (keep : List Nat) : Nat → St → (Ex → St → Option D) → Option D
  | 0, _, _ => none
  | n + 1, st, K => body (canon keep st) (fun e st' => match e with
    | .normal => loopN body keep n st' K
    | .exit id => K (.exit id) st'
    | .ret => K .ret st')

/-- What a loop does, told at once: from a state at its head. -/
abbrev LoopF := St → (Ex → St → Option D) → Option D

def exec (P : Program) (G : List (Nat × SV)) (sp : Table) (ann : Nat → List Nat) (ls : Nat → Option LoopF) (n : Nat) : Code → St → (Ex → St → Option D) → Option D
  | .skip, st, K => K .normal st
  | .region _ ops draw, st, K =>
    match draw with
    | true => drawOps P G sp ops.toList st.rows.length ⟨st.tmps, st.rows ++ List.replicate ops.size none⟩ (K .normal)
    | false => seqOps P G sp ops.toList ops.toList st.rows.length ⟨st.tmps, st.rows ++ List.replicate ops.size none⟩ (K .normal)
  | .seq x y, st, K => exec P G sp ann ls n x st (fun e st' => match e with
    | .normal => exec P G sp ann ls n y st' K
    | .exit id => K (.exit id) st'
    | .ret => K .ret st')
  | .cond c x y, st, K => match c with
    | .tmp t => match st.tmps.getD t .any with
      | .bool b => if b = true then exec P G sp ann ls n x ⟨st.tmps.set t (.bool true), st.rows⟩ K else exec P G sp ann ls n y ⟨st.tmps.set t (.bool false), st.rows⟩ K
      | _ => none
    | .const (.bool b) => if b = true then exec P G sp ann ls n x st K else exec P G sp ann ls n y st K
    | _ => none
  | .block id c, st, K => exec P G sp ann ls n c st (fun e st' => match e with
    | .normal => K .normal st'
    | .exit i => if i = id then K .normal st' else K (.exit i) st'
    | .ret => K .ret st')
  | .loop c, st, K => match ls (firstId c) with
    | some F => F st K
    | none => loopN (exec P G sp ann ls n c) (ann (firstId c)) n st K
  | .exit id, st, K => K (.exit id) st
  | .ret, st, K => K .ret st
  | _, _, _ => none

/-- That a loop does what is told of it. -/
def SemOK (P : Program) (G : List (Nat × SV)) (c : Code) (F : LoopF) : Prop :=
  ∀ (st : St) (K : Ex → St → Option D) (r : D), F st K = some r → ∃ e st', K e st' = some r ∧
    ∀ (w0 : World) (L : List (Option Loc)) (a : Act) (w : World), Glob G w0 → Rel w0 L st a w → ∀ (Q : Exit → Act → World → Prop), (∀ L' a' w', Rel w0 L' st' a' w' → Q e.out a' w') → (Code.loop c).wp P Q a w
def loops : Code → List Code
  | .seq a b => loops a ++ loops b
  | .cond _ a b => loops a ++ loops b
  | .block _ c => loops c
  | .loop c => c :: loops c
  | _ => []
def LsOK (P : Program) (G : List (Nat × SV)) (ls : Nat → Option LoopF) (c : Code) : Prop := ∀ b ∈ loops c, ∀ F, ls (firstId b) = some F → SemOK P G b F
theorem LsOK.none {P : Program} {G : List (Nat × SV)} {c : Code} : LsOK P G (fun _ => none) c := fun _ _ _ h => by cases h

section
variable {P : Program} {G : List (Nat × SV)} {sp : Table} {ann : Nat → List Nat} {ls : Nat → Option LoopF} {w0 : World}

theorem Rel.slots {L : List (Option Loc)} {st : St} {a : Act} {w : World} (h : Rel w0 L st a w) (m : Nat) : Rel w0 (L ++ List.replicate m none) ⟨st.tmps, st.rows ++ List.replicate m none⟩ a w ∧ Free (L ++ List.replicate m none) (st.rows ++ List.replicate m none) st.rows.length := by
  have hlo : ∀ (r : Nat), lo (L ++ List.replicate m none) r = lo L r := by
    intro r
    simp only [lo, List.getElem?_append]
    split
    · rfl
    · rename_i hr
      rw [List.getElem?_eq_none (by omega : L.length ≤ r)]
      by_cases hn : r - L.length < m
      · simp [hn]
      · rw [List.getElem?_eq_none (by simpa using hn)]
  refine ⟨⟨h.defers, reps_mono (fun r p hp => by rw [hlo]; exact hp) h.tmps, h.rows.slots m⟩, fun i hi _ => ?_⟩
  rw [hlo]
  unfold lo
  rw [List.getElem?_eq_none (by rw [h.rows.size]; exact hi)]
  rfl

theorem exec_ok (hsp : TableOK P G sp) (hm : P.follows .mixedOrders = true) (n : Nat) : ∀ (c : Code), LsOK P G ls c → ∀ (st : St) (K : Ex → St → Option D) (r : D), exec P G sp ann ls n c st K = some r →
    ∃ e st', K e st' = some r ∧ ∀ (w0 : World) (L : List (Option Loc)) (a : Act) (w : World), Glob G w0 → Rel w0 L st a w → ∀ (Q : Exit → Act → World → Prop), (∀ L' a' w', Rel w0 L' st' a' w' → Q e.out a' w') → c.wp P Q a w := by
  intro c
  induction c with
  | skip => intro _ st K r h; exact ⟨.normal, st, h, fun w0 L a w _ hrel Q hQ => wp_skip (hQ L a w hrel)⟩
  | region id ops draw =>
    intro hls st K r h
    obtain ⟨ops⟩ := ops
    simp only [exec, List.size_toArray] at h
    split at h
    · obtain ⟨st', h1, h2⟩ := drawOps_ok (id := id) hsp hm h
      refine ⟨.normal, st', h1, fun w0 L a w hG hrel Q hQ => ?_⟩
      obtain ⟨hr, hf⟩ := hrel.slots ops.length
      exact h2 w0 _ a w hG hr hf (by simp) (fun idx h3 h4 => by
        simp only [List.length_append, List.length_replicate] at h4
        rw [List.getElem?_append_right h3, List.getElem?_replicate, if_pos (by omega)]) Q hQ
    · obtain ⟨st', h1, _, h2⟩ := seqOps_ok hsp _ _ _ _ _ h
      refine ⟨.normal, st', h1, fun w0 L a w hG hrel Q hQ => ?_⟩
      obtain ⟨hr, hf⟩ := hrel.slots ops.length
      exact wp_region_lit (h2 w0 _ a w hG hr hf (by simp) Q fun L' a' w' hr' _ => hQ L' a' w' hr')
  | seq x y ihx ihy =>
    intro hls st K r h
    simp only [exec] at h
    obtain ⟨e, st1, h1, h2⟩ := ihx (fun b hb => hls b (List.mem_append_left _ hb)) st _ r h
    cases e with
    | normal =>
      obtain ⟨e2, st2, h3, h4⟩ := ihy (fun b hb => hls b (List.mem_append_right _ hb)) st1 K r h1
      exact ⟨e2, st2, h3, fun w0 L a w hG hrel Q hQ => wp_seq (h2 w0 L a w hG hrel _ fun L' a' w' hr' => h4 w0 L' a' w' hG hr' Q hQ)⟩
    | exit id => exact ⟨.exit id, st1, h1, fun w0 L a w hG hrel Q hQ => wp_seq (h2 w0 L a w hG hrel _ fun L' a' w' hr' => hQ L' a' w' hr')⟩
    | ret => exact ⟨.ret, st1, h1, fun w0 L a w hG hrel Q hQ => wp_seq (h2 w0 L a w hG hrel _ fun L' a' w' hr' => hQ L' a' w' hr')⟩
  | cond c x y ihx ihy =>
    intro hls st K r h
    simp only [exec] at h
    split at h
    · rename_i t
      split at h
      · rename_i b hb
        have ev : ∀ (w0 : World) (L : List (Option Loc)) (a : Act) (w : World), Rel w0 L st a w → a.eval (.tmp t) = .bool b := by
          intro w0 L a w hrel
          have := operand_rep hrel.tmps (.tmp t)
          simp only [operandSV, hb, rep] at this
          exact this
        split at h
        · rename_i hbt
          rw [set_lit hb hbt] at h
          obtain ⟨e, st1, h1, h2⟩ := ihx (fun b hb => hls b (List.mem_append_left _ hb)) st K r h
          exact ⟨e, st1, h1, fun w0 L a w hG hrel Q hQ => wp_cond_true (by rw [ev w0 L a w hrel, hbt]) (h2 w0 L a w hG hrel Q hQ)⟩
        · rename_i hbt
          have hbf : b = false := by simpa using hbt
          rw [set_lit hb hbf] at h
          obtain ⟨e, st1, h1, h2⟩ := ihy (fun b hb => hls b (List.mem_append_right _ hb)) st K r h
          exact ⟨e, st1, h1, fun w0 L a w hG hrel Q hQ => wp_cond_false (by rw [ev w0 L a w hrel, hbf]) (h2 w0 L a w hG hrel Q hQ)⟩
      · cases h
    · rename_i b
      split at h
      · rename_i hbt
        obtain ⟨e, st1, h1, h2⟩ := ihx (fun b hb => hls b (List.mem_append_left _ hb)) st K r h
        exact ⟨e, st1, h1, fun w0 L a w hG hrel Q hQ => wp_cond_true (by rw [hbt]; rfl) (h2 w0 L a w hG hrel Q hQ)⟩
      · rename_i hbt
        have hbf : b = false := by simpa using hbt
        obtain ⟨e, st1, h1, h2⟩ := ihy (fun b hb => hls b (List.mem_append_right _ hb)) st K r h
        exact ⟨e, st1, h1, fun w0 L a w hG hrel Q hQ => wp_cond_false (by rw [hbf]; rfl) (h2 w0 L a w hG hrel Q hQ)⟩
    · cases h
  | block id c ih =>
    intro hls st K r h
    simp only [exec] at h
    obtain ⟨e, st1, h1, h2⟩ := ih hls st _ r h
    cases e with
    | normal => exact ⟨.normal, st1, h1, fun w0 L a w hG hrel Q hQ => wp_block (h2 w0 L a w hG hrel _ fun L' a' w' hr' => hQ L' a' w' hr')⟩
    | exit i =>
      have h1' : (if i = id then K .normal st1 else K (.exit i) st1) = some r := h1
      clear h1
      split at h1'
      · rename_i hi
        exact ⟨.normal, st1, h1', fun w0 L a w hG hrel Q hQ => wp_block (h2 w0 L a w hG hrel _ fun L' a' w' hr' => by simp only [Ex.out, Exit.inBlock, if_pos hi]; exact hQ L' a' w' hr')⟩
      · rename_i hi
        exact ⟨.exit i, st1, h1', fun w0 L a w hG hrel Q hQ => wp_block (h2 w0 L a w hG hrel _ fun L' a' w' hr' => by simp only [Ex.out, Exit.inBlock, if_neg hi]; exact hQ L' a' w' hr')⟩
    | ret => exact ⟨.ret, st1, h1, fun w0 L a w hG hrel Q hQ => wp_block (h2 w0 L a w hG hrel _ fun L' a' w' hr' => hQ L' a' w' hr')⟩
  | loop c ih =>
    intro hls st K r h
    simp only [exec] at h
    split at h
    · rename_i F hF
      exact hls c List.mem_cons_self F hF st K r h
    have key : ∀ (m : Nat) (st : St), loopN (exec P G sp ann ls n c) (ann (firstId c)) m st K = some r →
        ∃ e st', K e st' = some r ∧ ∀ (w0 : World) (L : List (Option Loc)) (a : Act) (w : World), Glob G w0 → Rel w0 L st a w → ∀ (Q : Exit → Act → World → Prop), (∀ L' a' w', Rel w0 L' st' a' w' → Q e.out a' w') → Code.rounds P c Q m a w := by
      intro m
      induction m with
      | zero => intro st h; cases h
      | succ m ihm =>
        intro st h
        simp only [loopN] at h
        obtain ⟨e, st1, h1, h2⟩ := ih (fun b hb => hls b (List.mem_cons_of_mem _ hb)) (canon (ann (firstId c)) st) _ r h
        cases e with
        | normal =>
          obtain ⟨e2, st2, h3, h4⟩ := ihm st1 h1
          refine ⟨e2, st2, h3, fun w0 L a w hG hrel Q hQ => ?_⟩
          obtain ⟨L', hrel'⟩ := canon_rel (ann (firstId c)) hrel
          rw [rounds_succ]
          exact h2 w0 L' a w hG hrel' _ fun L2 a2 w2 hr2 => h4 w0 L2 a2 w2 hG hr2 Q hQ
        | exit id =>
          refine ⟨.exit id, st1, h1, fun w0 L a w hG hrel Q hQ => ?_⟩
          obtain ⟨L', hrel'⟩ := canon_rel (ann (firstId c)) hrel
          rw [rounds_succ]
          exact h2 w0 L' a w hG hrel' _ fun L2 a2 w2 hr2 => hQ L2 a2 w2 hr2
        | ret =>
          refine ⟨.ret, st1, h1, fun w0 L a w hG hrel Q hQ => ?_⟩
          obtain ⟨L', hrel'⟩ := canon_rel (ann (firstId c)) hrel
          rw [rounds_succ]
          exact h2 w0 L' a w hG hrel' _ fun L2 a2 w2 hr2 => hQ L2 a2 w2 hr2
    obtain ⟨e, st1, h1, h2⟩ := key n st h
    exact ⟨e, st1, h1, fun w0 L a w hG hrel Q hQ => wp_loop_rounds n (h2 w0 L a w hG hrel Q hQ)⟩
  | exit id => intro _ st K r h; exact ⟨.exit id, st, h, fun w0 L a w _ hrel Q hQ => wp_exit (hQ L a w hrel)⟩
  | ret => intro _ st K r h; exact ⟨.ret, st, h, fun w0 L a w _ hrel Q hQ => wp_ret (hQ L a w hrel)⟩
  | rangeFunc f ps x y _ _ => intro _ st K r h; cases h
  | scope c _ => intro _ st K r h; cases h
  | label l => intro _ st K r h; cases h
  | goto l => intro _ st K r h; cases h
  | refuse s => intro _ st K r h; cases h
end

/-! ### A function's first state -/
mutual
def enter : D → Nat → SV × Rows
  | .any, _ => (.any, [])
  | .bool b, _ => (.bool b, [])
  | .i k n, _ => (.i k n, [])
  | .u8 x, _ => (.u8 x, [])
  | .u16 x, _ => (.u16 x, [])
  | .u32 x, _ => (.u32 x, [])
  | .u64 x, _ => (.u64 x, [])
  | .f k x, _ => (.f k x, [])
  | .nan k, _ => (.nan k, [])
  | .c v, _ => (.c v, [])
  | .ref l, n => (.ptr (n + (enterL l n).2.length) 0, (enterL l n).2 ++ [some ⟨.agg (enterL l n).1, false⟩])
  | .refI k l, n => (.ptr n 0, [some ⟨.ai k l, false⟩])
  | .ref8 l, n => (.ptr n 0, [some ⟨.a8 l, false⟩])
  | .ref64 l, n => (.ptr n 0, [some ⟨.a64 l, false⟩])
  | .sl l, n => (.sl (n + (enterL l n).2.length) 0 l.length, (enterL l n).2 ++ [some ⟨.agg (enterL l n).1, false⟩])
  | .slI k l, n => (.sl n 0 l.length, [some ⟨.ai k l, false⟩])
  | .sl8 l, n => (.sl n 0 l.length, [some ⟨.a8 l, false⟩])
  | .sl64 l, n => (.sl n 0 l.length, [some ⟨.a64 l, false⟩])
  | .agg l, n => (.agg (enterL l n).1, (enterL l n).2)
  | .ai k l, _ => (.ai k l, [])
  | .a8 l, _ => (.a8 l, [])
  | .a64 l, _ => (.a64 l, [])
  | .tup l, n => (.tup (enterL l n).1, (enterL l n).2)
  | .clo f l, n => (.clo f (enterL l n).1, (enterL l n).2)
def enterL : List D → Nat → List SV × Rows
  | [], _ => ([], [])
  | d :: l, n => ((enter d n).1 :: (enterL l (n + (enter d n).2.length)).1, (enter d n).2 ++ (enterL l (n + (enter d n).2.length)).2)
end
end Go.Ev

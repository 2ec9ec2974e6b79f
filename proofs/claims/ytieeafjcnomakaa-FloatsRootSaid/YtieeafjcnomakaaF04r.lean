/-
  Part of the proof; what its functions and lemmas say stands in the text.
-/
import Derived.Test.YtieeafjcnomakaaF04A
import Derived.Test.YtieeafjcnomakaaEvE
import Derived.Test.YtieeafjcnomakaaRows
set_option linter.unusedSimpArgs false
set_option linter.unusedVariables false
/-!
Rows.
-/
namespace Go.L04
open Go.Ev Go.Proofs Go.RowKit Go.ChangeShapes Go.WideShapes Go.ChangeAt

theorem own : ownKnob Try.prog.godebug = none := by kernel_rfl
theorem laidOut : laidOutB Try.prog = true := by kernel_rfl
theorem glob_nil {W : World} : Glob G0 W := fun g c h => by cases h
/-- A law that answers 'true' at these arguments. -/
noncomputable def trueS (ok : List D → Bool) : Ev.Spec := guarded fun ds => some (ok ds, .bool true)
theorem call_true {f : Nat} {ok : List D → Bool} (hs : Snd f (trueS ok)) {ds : List D} {w : World} {args : List Value} (hok : ok ds = true) (hl : lie none w ds args)
    (hcall : (callFunc f ⟨args⟩).run Try.prog w = .ok (.enter f ⟨args⟩) w) : Calls Try.prog f ⟨args⟩ w fun e w' => e = .returned (.bool true) ∧ Below w.heap.size w w' := by
  obtain ⟨d, hd, hgo⟩ := hs ds some (.bool true) (by simp [trueS, guarded, hok])
  cases hd
  rcases hgo w args glob_nil hl with ⟨v, w', h1, _⟩ | ⟨_, h2⟩
  · rw [hcall] at h1; cases h1
  · exact Calls.mono h2 fun e w' ⟨v, he, hb, hv⟩ => by
      simp only [lies] at hv
      subst hv
      exact ⟨he, hb⟩
theorem u32_of_wf {n : Int} (h : (Lit.int .u32 n).wf = true) : ∃ x : BitVec 32, n = (x.toNat : Int) := by
  simp only [Lit.wf, Bool.and_eq_true, decide_eq_true_eq] at h
  have h1 : (0 : Int) ≤ n := h.1
  have h2 : n ≤ 4294967295 := h.2
  refine ⟨BitVec.ofNat 32 n.toNat, ?_⟩
  rw [BitVec.toNat_ofNat, Nat.mod_eq_of_lt (by omega)]
  omega
theorem arg_u32 {H : Type} {enc : TypeId × Value → H} {P : Program} {W : World} {base b0 : Nat} {spare : Nat → Bool} {held : Bool} {r : Reach} {own : Option Nat} {v : Value} {d : DataW H} {p : List MemPlace} {t : TypeId}
    (ht : P.underlying t = some (.int .u32)) (hv : Value.okWide P W r b0 t v) (h : DataW.Trod enc P W base spare held t v d p) : ∃ x : BitVec 32, lies own W (.u32 x) v := by
  obtain ⟨n, rfl, _, _, hw⟩ := open_int ht hv h
  obtain ⟨x, rfl⟩ := u32_of_wf hw
  exact ⟨x, by simp only [lies]⟩
theorem i64_in {n : Int} (h : (Lit.int .i64 n).wf = true) : decide (-9223372036854775808 ≤ n ∧ n < 9223372036854775808) = true := by
  simp only [Lit.wf, Bool.and_eq_true, decide_eq_true_eq] at h
  have h1 : (-9223372036854775808 : Int) ≤ n := h.1
  have h2 : n ≤ 9223372036854775807 := h.2
  exact decide_eq_true ⟨h1, by omega⟩
def chainT : List Bool → Option D
  | [] => some (.bool true)
  | b :: l => if b = true then chainT l else some (.bool false)
theorem chainT_all : ∀ {l : List Bool}, (∀ b ∈ l, b = true) → chainT l = some (.bool true)
  | [], _ => rfl
  | b :: l, h => by
    simp only [chainT, h b List.mem_cons_self, if_true]
    exact chainT_all fun c hc => h c (List.mem_cons_of_mem _ hc)
end Go.L04

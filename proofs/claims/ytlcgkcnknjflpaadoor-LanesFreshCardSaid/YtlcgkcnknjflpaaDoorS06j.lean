/-
  Part of the proof; what its functions and lemmas say stands in the text.
-/
import Derived.Test.YtlcgkcnknjflpaaDoorS06i
import Derived.Test.YtlcgkcnknjflpaaDoorEv24
set_option linter.unusedSimpArgs false
set_option linter.unusedVariables false
/-!
Chapter 06: lists of words.
-/
namespace Go.L06
open Go.Ev Go.Proofs Go.RowKit Go.Rt

noncomputable def c33 : Code := findLoop (loops (Tryd.f33.body.getD .skip)) 4
noncomputable def S33 (a b : List (BitVec 64)) (i : Int) (r : Bool) : St := ⟨mkT 26 [(0, .sl 0 0 a.length), (1, .sl 1 0 b.length), (4, .bool r), (5, .i .i64 i)], [some ⟨.a64 a, false⟩, some ⟨.a64 b, false⟩]⟩
structure X33 where
  a : List (BitVec 64)
  b : List (BitVec 64)
  i : Nat
def go33 (x : X33) : Bool := decide (x.i < x.a.length) && (x.a.getD x.i 0#64 == x.b.getD x.i 0#64)
noncomputable def e33 (x : X33) : Ex := if x.i < x.a.length then .ret else .exit 0
def fin33N (a b : List (BitVec 64)) : Nat → Nat → Nat
  | i, 0 => i
  | i, n + 1 => if go33 ⟨a, b, i⟩ = true then fin33N a b (i + 1) n else i
def fin33 (x : X33) : X33 := { x with i := fin33N x.a x.b x.i (x.a.length - x.i) }
theorem body33 (a b : List (BitVec 64)) (hab : a.length = b.length) (hlt : a.length < 2 ^ 62) (i : Nat) (hi : i ≤ a.length) (K : Ex → St → Option D) :
    exec Tryd.prog G0 (tabOf []) (fun _ => []) (fun _ => none) 50 c33 (S33 a b i false) (fun e st => K e (canon [0, 1, 4, 5] st)) =
      if go33 ⟨a, b, i⟩ = true then K .normal (S33 a b ((i + 1 : Nat) : Int) false) else K (e33 ⟨a, b, i⟩) (S33 a b i false) := by
  have nf : ∀ i : Int, exec Tryd.prog G0 (tabOf []) (fun _ => []) (fun _ => none) 50 c33 (S33 a b i false) (fun e st => K e (canon [0, 1, 4, 5] st)) =
    if decide (i < (a.length : Int)) = true then
      if 0 ≤ i ∧ i < (a.length : Int) then
        if 0 + i.toNat * 1 < a.length then
          if 0 ≤ i ∧ i < (b.length : Int) then
            if 0 + i.toNat * 1 < b.length then
              if (!a.getD (0 + i.toNat * 1) 0#64 == b.getD (0 + i.toNat * 1) 0#64) = true then K .ret (S33 a b i false)
              else K .normal (S33 a b (IntKind.i64.wrap (i + 1)) false)
            else none
          else none
        else none
      else none
    else K (.exit 0) (S33 a b i false) := fun i => by kernel_rfl
  rw [nf i]
  unfold go33 e33
  by_cases h : i < a.length
  · have h1 : (i : Int) < (a.length : Int) := by omega
    have h2 : (0 : Int) ≤ (i : Int) := by omega
    have h3 : (i : Int) < (b.length : Int) := by omega
    have h4 : i < b.length := by omega
    have e1 : 0 + ((i : Int)).toNat * 1 = i := by omega
    have e2 : IntKind.i64.wrap ((i : Int) + 1) = ((i + 1 : Nat) : Int) := by rw [wrap_i64 (by omega) (by omega)]; rfl
    simp only [h, h1, h2, h3, h4, e1, e2, decide_true, if_true, and_self, Bool.true_and]
    cases a.getD i 0#64 == b.getD i 0#64 <;> rfl
  · have h1 : ¬ (i : Int) < (a.length : Int) := by omega
    simp only [h, h1, decide_false, Bool.false_and, Bool.false_eq_true, if_false]
noncomputable def parse33 (st : St) : Option (Bool × X33) := match st with
  | ⟨t, [some ⟨.a64 a, false⟩, some ⟨.a64 b, false⟩]⟩ =>
    match t.getD 0 .any, t.getD 1 .any, t.getD 4 .any, t.getD 5 .any with
    | .sl 0 0 n, .sl 1 0 m, .bool false, .i .i64 (.ofNat i) => some (decide (t.length = 26 ∧ n = a.length ∧ m = b.length ∧ a.length = b.length ∧ a.length < 2 ^ 62 ∧ i ≤ a.length), ⟨a, b, i⟩)
    | _, _, _, _ => none
  | _ => none

theorem sem33 : SemOK Tryd.prog G0 c33 (sumF2 [0, 1, 4, 5] parse33 (fun x => decide (x.i < x.a.length)) .ret (.exit 0) (fun x => S33 x.a x.b x.i false) fin33) := by
  refine SemOK.sum2 (I := fun x => x.a.length = x.b.length ∧ x.a.length < 2 ^ 62 ∧ x.i ≤ x.a.length) (S := fun x => S33 x.a x.b x.i false) ?_ ?_
  · refine loop_rule (sp := tabOf []) (ann := fun _ => []) (ls := fun _ => none) TableOK.nil mixed 50 LsOK.none (fun x : X33 => S33 x.a x.b x.i false) (fun x => if decide (x.i < x.a.length) = true then .ret else .exit 0) (fun x h => by by_cases hh : x.i < x.a.length <;> simp [hh, Ex.out] at h) (fun x => S33 x.a x.b x.i false)
      go33 (fun x => { x with i := x.i + 1 }) [0, 1, 4, 5] _ ?_ ?_ fin33 ?_ (fun x => x.a.length - x.i) ?_
    · intro x ⟨h1, h2, h3⟩ hg
      simp only [go33, Bool.and_eq_true, decide_eq_true_eq] at hg
      exact ⟨h1, h2, by show x.i + 1 ≤ x.a.length; omega⟩
    · intro x ⟨h1, h2, h3⟩ K _
      have := body33 x.a x.b h1 h2 x.i h3 K
      unfold e33 at this
      simpa only [decide_eq_true_eq] using this
    · intro x
      obtain ⟨a, b, i⟩ := x
      by_cases hg : go33 ⟨a, b, i⟩ = true
      · rw [if_pos hg]
        have hi : i < a.length := by simp only [go33, Bool.and_eq_true, decide_eq_true_eq] at hg; exact hg.1
        obtain ⟨n, hn⟩ : ∃ n, a.length - i = n + 1 := ⟨a.length - i - 1, by omega⟩
        have hn2 : a.length - (i + 1) = n := by omega
        simp only [fin33, hn, hn2, fin33N, hg, if_true]
      · rw [if_neg hg]
        simp only [fin33]
        cases hn : a.length - i with
        | zero => rfl
        | succ n => simp only [fin33N, hg, if_false, Bool.false_eq_true]
    · intro x hg
      simp only [go33, Bool.and_eq_true, decide_eq_true_eq] at hg
      show x.a.length - (x.i + 1) < x.a.length - x.i
      omega
  · intro st x hx
    unfold parse33 at hx
    split at hx
    · rename_i t a b
      split at hx
      · rename_i n m i h0 h1 h4 h5
        simp only [Option.some.injEq, Prod.mk.injEq, decide_eq_true_eq] at hx
        obtain ⟨⟨g1, rfl, rfl, g4, g5, g6⟩, rfl⟩ := hx
        refine ⟨⟨g4, g5, g6⟩, fun w0 L' a w hrel => ?_⟩
        exact Rel.pick hrel g1 fun x hx => by
          simp only [List.mem_cons, List.not_mem_nil, or_false] at hx
          rcases hx with rfl | rfl | rfl | rfl
          · exact h0
          · exact h1
          · exact h4
          · exact h5
      · cases hx
    · cases hx
theorem fin33_eq (a b : List (BitVec 64)) (hab : a.length = b.length) : ∀ (n i : Nat), a.length - i = n → i ≤ a.length → (∀ j, j < i → a.getD j 0#64 = b.getD j 0#64) →
    decide (fin33N a b i n < a.length) = !(a == b)
  | 0, i, hn, hi, h => by
    have e : i = a.length := by omega
    have hab2 : a = b := by
      apply List.ext_getElem hab
      intro j h1 h2
      have := h j (by omega)
      simpa [List.getD_eq_getElem?_getD, h1, h2] using this
    simp [fin33N, e, hab2]
  | n + 1, i, hn, hi, h => by
    simp only [fin33N]
    split
    · rename_i hg
      simp only [go33, Bool.and_eq_true, decide_eq_true_eq, beq_iff_eq] at hg
      refine fin33_eq a b hab n (i + 1) (by omega) (by omega) fun j hj => ?_
      rcases Nat.lt_or_ge j i with h1 | h1
      · exact h j h1
      · have : j = i := by omega
        subst this; exact hg.2
    · rename_i hg
      have hi' : i < a.length := by omega
      simp only [go33, hi', decide_true, Bool.true_and, beq_iff_eq] at hg
      have : a ≠ b := fun e => hg (by rw [e])
      simp [hi', this]
noncomputable def WordsS : Ev.Spec := guarded fun | [.sl64 a, .sl64 b] => some (decide (a.length < 2 ^ 62 ∧ b.length < 2 ^ 62), .bool (a == b)) | _ => none
noncomputable def ls33 : Nat → Option LoopF := lsOf [(4, sumF2 [0, 1, 4, 5] parse33 (fun x => decide (x.i < x.a.length)) .ret (.exit 0) (fun x => S33 x.a x.b x.i false) fin33)]
theorem loops33 : LsOK Tryd.prog G0 ls33 (Tryd.f33.body.getD .skip) := by
  refine LsOK.of (of_decide_eq_true (by kernel_rfl)) fun x hx => ?_
  simp only [List.mem_cons, List.not_mem_nil, or_false] at hx
  subst hx
  exact sem33
theorem Words33 : Snd 33 WordsS := by
  refine Sound.guard (execFnL_sound (ann := fun _ => []) (ls := ls33) TableOK.nil mixed Tryd.func33 (by kernel_rfl) 50 (fun c hc => by
    have e : c = Tryd.f33.body.getD .skip := by rw [hc]; rfl
    rw [e]; exact loops33)) fun ds d h => ?_
  split at h
  · rename_i a b
    simp only [Option.some.injEq, Prod.mk.injEq, decide_eq_true_eq] at h
    obtain ⟨⟨ha, hb⟩, rfl⟩ := h
    have nf : execFnL Tryd.prog G0 (tabOf []) (fun _ => []) ls33 Tryd.f33 50 [.sl64 a, .sl64 b] some =
      if (!((a.length : Int) == (b.length : Int))) = true then some (.bool false) else
        if decide (26 = 26 ∧ a.length = a.length ∧ b.length = b.length ∧ a.length = b.length ∧ a.length < 2 ^ 62 ∧ 0 ≤ a.length) = true then
          if decide (fin33N a b 0 (a.length - 0) < a.length) = true then some (.bool false) else some (.bool true)
        else none := by kernel_rfl
    refine nf.trans ?_
    by_cases hl : a.length = b.length
    · have e := fin33_eq a b hl (a.length - 0) 0 rfl (by omega) (fun j hj => by cases hj)
      have hl' : ((a.length : Int) == (b.length : Int)) = true := by simp [hl]
      rw [e, hl', if_neg (by simp), if_pos (by simp [hl] at ha ⊢; exact ha)]
      cases a == b <;> rfl
    · have hl' : ((a.length : Int) == (b.length : Int)) = false := by simp; omega
      have hab : (a == b) = false := by simp; intro e; exact hl (by rw [e])
      rw [hl', hab, if_pos (by simp)]
  · cases h
end Go.L06

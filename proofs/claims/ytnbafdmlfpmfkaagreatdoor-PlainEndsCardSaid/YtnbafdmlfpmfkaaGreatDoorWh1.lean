/-
  Part of the proof; what its functions and lemmas say stands in the text.
-/
import Derived.Test.YtnbafdmlfpmfkaaGreatDoorEvE
set_option linter.unusedSimpArgs false
set_option linter.unusedVariables false
namespace Go.Wh
open Go.Ev Go.RowKit
def okW (w : Int) : Bool := decide (w = 8 ∨ w = 16 ∨ w = 32 ∨ w = 64)
theorem okW_cases {w : Int} (h : okW w = true) : w = 8 ∨ w = 16 ∨ w = 32 ∨ w = 64 := of_decide_eq_true h
def maskF (t : Int) : BitVec 64 := 18446744073709551615#64 >>> (BitVec.ofInt 64 (IntKind.i64.wrap (64 - t))).toNat
theorem and_mask_nat (x : BitVec 64) (k : Nat) (m : BitVec 64) (hm : m.toNat = 2 ^ k - 1) : ((x &&& ~~~ m == 0#64) = true) ↔ x ≤ m := by
 rw [beq_iff_eq]
 have h1 : (x &&& ~~~ m = 0#64) ↔ (x &&& m = x) := by
  constructor
  ·intro h
   apply BitVec.eq_of_getLsbD_eq
   intro i hi
   have := congrArg (fun y => BitVec.getLsbD y i) h
   simp [hi] at this
   simp
   exact this
  ·intro h
   apply BitVec.eq_of_getLsbD_eq
   intro i hi
   have := congrArg (fun y => BitVec.getLsbD y i) h
   simp at this
   simp [hi]
   exact this
 have hp : 0 < 2 ^ k := Nat.two_pow_pos k
 rw [h1, ← BitVec.toNat_inj, BitVec.toNat_and, hm, Nat.and_two_pow_sub_one_eq_mod, BitVec.le_def, hm]
 constructor
 ·intro h; have := Nat.mod_lt x.toNat hp; omega
 ·intro h; exact Nat.mod_eq_of_lt (by omega)
theorem fit_eq {t : Int} (h : okW t = true) (x : BitVec 64) : (x &&& ~~~ maskF t == 0#64) = decide (x ≤ maskF t) := by
 have key : ∀ k : Nat, (maskF t).toNat = 2 ^ k - 1 → (x &&& ~~~ maskF t == 0#64) = decide (x ≤ maskF t) := by
  intro k hk
  have := and_mask_nat x k _ hk
  rw [Bool.eq_iff_iff, this]; simp
 rcases okW_cases h with rfl | rfl | rfl | rfl
 ·exact key 8 (by decide)
 ·exact key 16 (by decide)
 ·exact key 32 (by decide)
 ·exact key 64 (by decide)
def mayF (t : Int) (xs : List (BitVec 64)) : Bool := okW t && xs.all (fun x => decide (x ≤ maskF t))
theorem okW_no {t : Int} (h : ¬ okW t = true) : ((8 : Int) == t) = false ∧ ((16 : Int) == t) = false ∧ ((32 : Int) == t) = false ∧ ¬ ((64 : Int) == t) = true := by
 have h' : ¬ (t = 8 ∨ t = 16 ∨ t = 32 ∨ t = 64) := fun h2 => h (decide_eq_true h2)
 simp only [not_or] at h'
 obtain ⟨h1, h2, h3, h4⟩ := h'
 refine ⟨?_, ?_, ?_, ?_⟩
 ·simpa using fun e => h1 e.symm
 ·simpa using fun e => h2 e.symm
 ·simpa using fun e => h3 e.symm
 ·simpa using fun e => h4 e.symm
def errF (b : Bool) : Int := if b = true then 0 else 2
def ifF (b : Bool) (x : BitVec 64) : BitVec 64 := if b = true then x else 0#64
end Go.Wh

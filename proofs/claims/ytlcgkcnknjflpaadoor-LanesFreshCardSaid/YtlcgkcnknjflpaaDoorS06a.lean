/-
  Part of the proof; what its functions and lemmas say stands in the text.
-/
import Derived.Test.YtlcgkcnknjflpaaDoorEv21
import Derived.Test.YtlcgkcnknjflpaaDoorProg
set_option linter.unusedSimpArgs false
set_option linter.unusedVariables false
/-!
Chapter 06: what the functions answer.
-/
namespace Go.L06
open Go.Ev Go.Proofs Go.RowKit

def G0 : List (Nat × SV) := [(0, .ai .i64 [8,16,32,64])]
theorem mixed : Tryd.prog.follows .mixedOrders = true := by kernel_rfl
noncomputable abbrev ex (l : List (Nat × Ev.Spec)) (ann : Nat → List Nat) (f : Func) : Ev.Spec := execFn Tryd.prog G0 (tabOf l) ann f 50
abbrev Snd (f : Nat) (s : Ev.Spec) : Prop := Sound Tryd.prog G0 f s
abbrev Tok (l : List (Nat × Ev.Spec)) : Prop := TableOK Tryd.prog G0 (tabOf l)
abbrev vec (x y : BitVec 64) : D := .agg [.u64 x, .u64 y]

def okW (w : Int) : Bool := decide (w = 8 ∨ w = 16 ∨ w = 32 ∨ w = 64)
theorem okW_cases {w : Int} (h : okW w = true) : w = 8 ∨ w = 16 ∨ w = 32 ∨ w = 64 := of_decide_eq_true h
def maskF (t : Int) : BitVec 64 := 18446744073709551615#64 >>> (BitVec.ofInt 64 (IntKind.i64.wrap (64 - t))).toNat

/-! masks -/
noncomputable def maskS : Ev.Spec := joined fun | [.i .i64 t] => some (.u64 (maskF t)) | _ => none
theorem mask48 : Snd 48 maskS := by
  refine Sound.join (execFn_sound (ann := fun _ => []) TableOK.nil mixed Tryd.func48 (by kernel_rfl) 50) fun ds d h => ?_
  split at h
  · rename_i t
    cases h
    kernel_rfl
  · cases h
theorem mask49 : Snd 49 maskS := by
  refine Sound.join (execFn_sound (ann := fun _ => []) TableOK.nil mixed Tryd.func49 (by kernel_rfl) 50) fun ds d h => ?_
  split at h
  · rename_i t
    cases h
    kernel_rfl
  · cases h
noncomputable def maskOS : Ev.Spec := guarded fun | [.i .i64 t] => some (okW t, .u64 (maskF t)) | _ => none
theorem mask55 : Snd 55 maskOS := by
  refine Sound.guard (execFn_sound (ann := fun _ => []) TableOK.nil mixed Tryd.func55 (by kernel_rfl) 50) fun ds d h => ?_
  split at h
  · rename_i t
    simp only [Option.some.injEq, Prod.mk.injEq] at h
    obtain ⟨h, rfl⟩ := h
    rcases okW_cases h with rfl | rfl | rfl | rfl <;> kernel_rfl
  · cases h

/-! widths -/
noncomputable def widthS : Ev.Spec := joined fun | [.i .i64 t] => some (.bool (okW t)) | _ => none
theorem width42 : Snd 42 widthS := by
  refine Sound.join (execFn_sound (ann := fun _ => []) TableOK.nil mixed Tryd.func42 (by kernel_rfl) 50) fun ds d h => ?_
  split at h
  · rename_i t
    cases h
    have nf : ex [] (fun _ => []) Tryd.f42 [.i .i64 t] some = if (t == 8) = false then
        if (t == 16) = false then if (t == 32) = false then some (D.bool (t == 64)) else some (D.bool true)
        else some (D.bool true)
      else some (D.bool true) := by kernel_rfl
    refine nf.trans ?_
    unfold okW
    repeat' split
    all_goals first | (simp_all; done) | (simp_all; rfl)
  · cases h

/-! what fits -/
theorem and_mask_nat (x : BitVec 64) (k : Nat) (m : BitVec 64) (hm : m.toNat = 2 ^ k - 1) : ((x &&& ~~~ m == 0#64) = true) ↔ x ≤ m := by
  rw [beq_iff_eq]
  have h1 : (x &&& ~~~ m = 0#64) ↔ (x &&& m = x) := by
    constructor
    · intro h
      apply BitVec.eq_of_getLsbD_eq
      intro i hi
      have := congrArg (fun y => BitVec.getLsbD y i) h
      simp [hi] at this
      simp
      exact this
    · intro h
      apply BitVec.eq_of_getLsbD_eq
      intro i hi
      have := congrArg (fun y => BitVec.getLsbD y i) h
      simp at this
      simp [hi]
      exact this
  have hp : 0 < 2 ^ k := Nat.two_pow_pos k
  rw [h1, ← BitVec.toNat_inj, BitVec.toNat_and, hm, Nat.and_two_pow_sub_one_eq_mod, BitVec.le_def, hm]
  constructor
  · intro h; have := Nat.mod_lt x.toNat hp; omega
  · intro h; exact Nat.mod_eq_of_lt (by omega)
theorem fit_eq {t : Int} (h : okW t = true) (x : BitVec 64) : (x &&& ~~~ maskF t == 0#64) = decide (x ≤ maskF t) := by
  have key : ∀ k : Nat, (maskF t).toNat = 2 ^ k - 1 → (x &&& ~~~ maskF t == 0#64) = decide (x ≤ maskF t) := by
    intro k hk
    have := and_mask_nat x k _ hk
    rw [Bool.eq_iff_iff, this]; simp
  rcases okW_cases h with rfl | rfl | rfl | rfl
  · exact key 8 (by decide)
  · exact key 16 (by decide)
  · exact key 32 (by decide)
  · exact key 64 (by decide)

def mayF (t : Int) (xs : List (BitVec 64)) : Bool := okW t && xs.all (fun x => decide (x ≤ maskF t))
noncomputable def mayS : Ev.Spec := joined fun
  | [.i .i64 t, .sl64 [x]] => some (.bool (mayF t [x]))
  | [.i .i64 t, .sl64 [x, y]] => some (.bool (mayF t [x, y]))
  | _ => none
def ann50 : Nat → List Nat := fun | 8 => [0, 5, 21, 22, 23] | 3 => [0, 1, 5, 10, 11] | _ => []
theorem okW_no {t : Int} (h : ¬ okW t = true) : ((8 : Int) == t) = false ∧ ((16 : Int) == t) = false ∧ ((32 : Int) == t) = false ∧ ¬ ((64 : Int) == t) = true := by
  have h' : ¬ (t = 8 ∨ t = 16 ∨ t = 32 ∨ t = 64) := fun h2 => h (decide_eq_true h2)
  simp only [not_or] at h'
  obtain ⟨h1, h2, h3, h4⟩ := h'
  refine ⟨?_, ?_, ?_, ?_⟩
  · simpa using fun e => h1 e.symm
  · simpa using fun e => h2 e.symm
  · simpa using fun e => h3 e.symm
  · simpa using fun e => h4 e.symm
theorem may50 : Snd 50 mayS := by
  refine Sound.join (execFn_sound (ann := ann50) (TableOK.cons mask55 TableOK.nil) mixed Tryd.func50 (by kernel_rfl) 50) fun ds d h => ?_
  split at h
  · rename_i t x
    cases h
    by_cases hw : okW t = true
    · have e := fit_eq hw
      have nf : ∀ t, okW t = true → ex [(55, maskOS)] ann50 Tryd.f50 [.i .i64 t, .sl64 [x]] some = some (D.bool (x &&& ~~~maskF t == 0#64)) := by
        intro t ht
        rcases okW_cases ht with rfl | rfl | rfl | rfl <;> kernel_rfl
      refine (nf t hw).trans ?_
      simp only [mayF, hw, List.all_cons, List.all_nil, Bool.and_true, Bool.true_and, ← e]
    · have nf : ex [(55, maskOS)] ann50 Tryd.f50 [.i .i64 t, .sl64 [x]] some = if (8 == t) = false then
          if (16 == t) = false then
            if (32 == t) = false then if (64 == t) = true then (if okW t = true then some (D.bool (x &&& ~~~maskF t == 0#64)) else none) else some (D.bool false)
            else (if okW t = true then some (D.bool (x &&& ~~~maskF t == 0#64)) else none)
          else (if okW t = true then some (D.bool (x &&& ~~~maskF t == 0#64)) else none)
        else (if okW t = true then some (D.bool (x &&& ~~~maskF t == 0#64)) else none) := by kernel_rfl
      refine nf.trans ?_
      obtain ⟨h1, h2, h3, h4⟩ := okW_no hw
      rw [if_pos h1, if_pos h2, if_pos h3, if_neg h4]
      simp only [mayF, hw, Bool.false_and]
  · rename_i t x y
    cases h
    by_cases hw : okW t = true
    · have e := fit_eq hw
      have nf : ∀ t, okW t = true → ex [(55, maskOS)] ann50 Tryd.f50 [.i .i64 t, .sl64 [x, y]] some = if (x &&& ~~~maskF t == 0#64) = true then some (D.bool (y &&& ~~~maskF t == 0#64)) else some (D.bool false) := by
        intro t ht
        rcases okW_cases ht with rfl | rfl | rfl | rfl <;> kernel_rfl
      refine (nf t hw).trans ?_
      simp only [mayF, hw, List.all_cons, List.all_nil, Bool.and_true, Bool.true_and, ← e]
      split
      · rename_i h1; rw [h1, Bool.true_and]
      · rename_i h1; rw [Bool.not_eq_true] at h1; rw [h1, Bool.false_and]
    · have nf : ex [(55, maskOS)] ann50 Tryd.f50 [.i .i64 t, .sl64 [x, y]] some = if (8 == t) = false then
          if (16 == t) = false then
            if (32 == t) = false then if (64 == t) = true then (if okW t = true then (if (x &&& ~~~maskF t == 0#64) = true then (if okW t = true then some (D.bool (y &&& ~~~maskF t == 0#64)) else none) else some (D.bool false)) else none) else some (D.bool false)
            else (if okW t = true then (if (x &&& ~~~maskF t == 0#64) = true then (if okW t = true then some (D.bool (y &&& ~~~maskF t == 0#64)) else none) else some (D.bool false)) else none)
          else (if okW t = true then (if (x &&& ~~~maskF t == 0#64) = true then (if okW t = true then some (D.bool (y &&& ~~~maskF t == 0#64)) else none) else some (D.bool false)) else none)
        else (if okW t = true then (if (x &&& ~~~maskF t == 0#64) = true then (if okW t = true then some (D.bool (y &&& ~~~maskF t == 0#64)) else none) else some (D.bool false)) else none) := by kernel_rfl
      refine nf.trans ?_
      obtain ⟨h1, h2, h3, h4⟩ := okW_no hw
      rw [if_pos h1, if_pos h2, if_pos h3, if_neg h4]
      simp only [mayF, hw, Bool.false_and]
  · cases h

/-- ints.One at 'not'. -/
def errF (b : Bool) : Int := if b = true then 0 else 2
def ifF (b : Bool) (x : BitVec 64) : BitVec 64 := if b = true then x else 0#64
noncomputable def oneS : Ev.Spec := joined fun
  | [.u8 31#8, .i .i64 t, .u64 x] => some (.tup [.u64 (ifF (mayF t [x]) (~~~x &&& maskF t)), .i .i64 (errF (mayF t [x]))])
  | _ => none
theorem one47 : Snd 47 oneS := by
  refine Sound.join (execFn_sound (ann := fun _ => []) (TableOK.cons may50 (TableOK.cons mask55 TableOK.nil)) mixed Tryd.func47 (by kernel_rfl) 50) fun ds d h => ?_
  split at h
  · rename_i t x
    cases h
    have nf : ex [(50, mayS), (55, maskOS)] (fun _ => []) Tryd.f47 [.u8 31#8, .i .i64 t, .u64 x] some =
      if (!mayF t [x]) = true then some (D.tup [D.u64 0#64, D.i IntKind.i64 2])
      else (if okW t = true then some (D.tup [D.u64 (~~~x &&& maskF t), D.i IntKind.i64 0]) else none) := by kernel_rfl
    refine nf.trans ?_
    cases hm : mayF t [x]
    · rfl
    · have : okW t = true := by
        unfold mayF at hm
        rw [Bool.and_eq_true] at hm
        exact hm.1
      rw [this]; rfl
  · cases h
def isF (t : Int) (x : BitVec 64) : Bool := okW t && decide (x ≤ maskF t)
noncomputable def isS : Ev.Spec := joined fun | [.i .i64 t, .u64 x] => some (.bool (isF t x)) | _ => none
theorem is40 : Snd 40 isS := by
  refine Sound.join (execFn_sound (ann := fun _ => []) (TableOK.cons one47 TableOK.nil) mixed Tryd.func40 (by kernel_rfl) 50) fun ds d h => ?_
  split at h
  · rename_i t x
    cases h
    have nf : ex [(47, oneS)] (fun _ => []) Tryd.f40 [.i .i64 t, .u64 x] some = some (.bool (errF (mayF t [x]) == 0)) := by kernel_rfl
    refine nf.trans ?_
    have : isF t x = mayF t [x] := by simp [isF, mayF]
    rw [this]
    cases mayF t [x] <;> rfl
  · cases h

/-! lanes -/
def shW (n : Int) : Nat := (BitVec.ofInt 64 n).toNat
def getF (x y : BitVec 64) (t i : Int) : BitVec 64 := if 64 ≤ IntKind.i64.wrap (i * t) then y >>> shW (IntKind.i64.wrap (IntKind.i64.wrap (i * t) - 64)) &&& maskF t else x >>> shW (IntKind.i64.wrap (i * t)) &&& maskF t
noncomputable def getS : Ev.Spec := joined fun | [.agg [.u64 x, .u64 y], .i .i64 t, .i .i64 i] => some (.u64 (getF x y t i)) | _ => none
theorem get41 : Snd 41 getS := by
  refine Sound.join (execFn_sound (ann := fun _ => []) (TableOK.cons mask48 TableOK.nil) mixed Tryd.func41 (by kernel_rfl) 50) fun ds d h => ?_
  split at h
  · rename_i x y t i
    cases h
    have nf : ex [(48, maskS)] (fun _ => []) Tryd.f41 [vec x y, .i .i64 t, .i .i64 i] some = if decide (64 ≤ IntKind.i64.wrap (i * t)) = true then
        some (D.u64 (y >>> shW (IntKind.i64.wrap (IntKind.i64.wrap (i * t) - 64)) &&& maskF t))
      else some (D.u64 (x >>> shW (IntKind.i64.wrap (i * t)) &&& maskF t)) := by kernel_rfl
    refine nf.trans ?_
    unfold getF
    simp only [decide_eq_true_eq]
    split <;> rfl
  · cases h
def put (x m : BitVec 64) (k : Nat) (z : BitVec 64) : BitVec 64 := x &&& ~~~ (m <<< k) ||| z <<< k
def setF (x y : BitVec 64) (t i : Int) (z : BitVec 64) : BitVec 64 × BitVec 64 :=
  if 64 ≤ IntKind.i64.wrap (i * t) then (x, put y (maskF t) (shW (IntKind.i64.wrap (IntKind.i64.wrap (i * t) - 64))) z) else (put x (maskF t) (shW (IntKind.i64.wrap (i * t))) z, y)
noncomputable def setS : Ev.Spec := joined fun | [.agg [.u64 x, .u64 y], .i .i64 t, .i .i64 i, .u64 z] => some (vec (setF x y t i z).1 (setF x y t i z).2) | _ => none
theorem set43 : Snd 43 setS := by
  refine Sound.join (execFn_sound (ann := fun _ => []) (TableOK.cons mask48 TableOK.nil) mixed Tryd.func43 (by kernel_rfl) 50) fun ds d h => ?_
  split at h
  · rename_i x y t i z
    cases h
    have nf : ex [(48, maskS)] (fun _ => []) Tryd.f43 [vec x y, .i .i64 t, .i .i64 i, .u64 z] some = if decide (64 ≤ IntKind.i64.wrap (i * t)) = true then
        some (vec x (put y (maskF t) (shW (IntKind.i64.wrap (IntKind.i64.wrap (i * t) - 64))) z))
      else some (vec (put x (maskF t) (shW (IntKind.i64.wrap (i * t))) z) y) := by kernel_rfl
    refine nf.trans ?_
    unfold setF
    simp only [decide_eq_true_eq]
    split <;> rfl
  · cases h
noncomputable def fitsS : Ev.Spec := joined fun | [.i .i64 t, .u64 x] => some (.bool (decide (x ≤ maskF t))) | _ => none
theorem fits44 : Snd 44 fitsS := by
  refine Sound.join (execFn_sound (ann := fun _ => []) (TableOK.cons mask49 TableOK.nil) mixed Tryd.func44 (by kernel_rfl) 50) fun ds d h => ?_
  split at h
  · cases h
    kernel_rfl
  · cases h
end Go.L06

/-
  Part of the proof; what its functions and lemmas say stands in the text.
-/
import Derived.Test.YtimaanpcglbnpaaDoorV08c
import Derived.Test.YtimaanpcglbnpaaDoorEvE
set_option linter.unusedSimpArgs false
set_option linter.unusedVariables false
/-!
Chapter 06: get and set.
-/
namespace Go.L08
open Go.Ev Go.Proofs Go.RowKit Go.Rt
open Go.Wh

/-- A width, and a lane of it. -/
def okI (t i : Int) : Bool := okW t && decide (0 ≤ i) && decide (i < 128 / t)
theorem okW_ne {t : Int} (h : okW t = true) : t ≠ 0 := by rcases okW_cases h with rfl | rfl | rfl | rfl <;> decide
theorem okW_div {t : Int} (h : okW t = true) : IntKind.i64.wrap (Int.tdiv 128 t) = 128 / t := by rcases okW_cases h with rfl | rfl | rfl | rfl <;> decide
theorem okW_pos {t : Int} (h : okW t = true) : ((128 / t).toNat : Int) = 128 / t := by rcases okW_cases h with rfl | rfl | rfl | rfl <;> decide
theorem isF_zero {t : Int} : isF t 0#64 = okW t := by
  have : 0#64 ≤ maskF t := by rw [BitVec.le_def]; simp
  simp [isF, this]
theorem listF_length (x y : BitVec 64) (w : Int) : (listF x y w).length = (128 / w).toNat := by simp [listF]
theorem listF_get {x y : BitVec 64} {w : Int} {n : Nat} (h : n < (128 / w).toNat) : (listF x y w).getD n 0#64 = getF x y w n := by
  rw [List.getD_eq_getElem?_getD]
  simp [listF, h]

noncomputable def GetS : Ev.Spec := joined fun | [.agg [.u64 x, .u64 y], .i .i64 t, .i .i64 i] => some (.tup [.u64 (ifF (okI t i) (getF x y t i)), .i .i64 (errF (okI t i))]) | _ => none
theorem Get13 : Snd 22 GetS := by
  refine Sound.join (execFn_sound (ann := fun _ => []) (TableOK.cons is40 (TableOK.cons get41 TableOK.nil)) mixed Tryd.func22 (by kernel_rfl) 50) fun ds d h => ?_
  split at h
  · rename_i x y t i
    cases h
    have nf : ex [(49, isS), (50, getS)] (fun _ => []) Tryd.f22 [vec x y, .i .i64 t, .i .i64 i] some = if (!isF t 0#64) = false then
        if decide (i < 0) = false then
          if t = 0 then none
          else
            if decide (IntKind.i64.wrap (Int.tdiv 128 t) ≤ i) = true then some (D.tup [D.u64 0#64, D.i IntKind.i64 2])
            else some (D.tup [D.u64 (getF x y t i), D.i IntKind.i64 0])
        else some (D.tup [D.u64 0#64, D.i IntKind.i64 2])
      else some (D.tup [D.u64 0#64, D.i IntKind.i64 2]) := by kernel_rfl
    refine nf.trans ?_
    rw [isF_zero]
    cases hw : okW t
    · simp [okI, hw, ifF, errF]
    · have h0 := okW_ne hw
      simp only [okI, hw, okW_div hw, if_neg h0]
      by_cases h1 : 0 ≤ i
      · by_cases h2 : i < 128 / t
        · have h3 : ¬ i < 0 := by omega
          have h4 : ¬ 128 / t ≤ i := by omega
          simp [h1, h2, h3, h4, ifF, errF]
        · have h3 : ¬ i < 0 := by omega
          have h4 : 128 / t ≤ i := by omega
          simp [h1, h2, h3, h4, ifF, errF]
      · have h3 : i < 0 := by omega
        simp [h1, h3, ifF, errF]
  · cases h
def okS (t i : Int) (z : BitVec 64) : Bool := okI t i && decide (z ≤ maskF t)
noncomputable def SetS : Ev.Spec := joined fun
  | [.agg [.u64 x, .u64 y], .i .i64 t, .i .i64 i, .u64 z] => some (.tup [vec (ifF (okS t i z) (setF x y t i z).1) (ifF (okS t i z) (setF x y t i z).2), .i .i64 (errF (okS t i z))])
  | _ => none
/-- Setting a lane of all lanes is setting it in the vector. -/
theorem and_fit {t : Int} (h : okW t = true) {z : BitVec 64} (hz : z ≤ maskF t) : z = z &&& maskF t := by
  have e := fit_eq h z
  rw [decide_eq_true hz, beq_iff_eq] at e
  apply BitVec.eq_of_getLsbD_eq
  intro j hj
  have h1 := congrArg (fun y => BitVec.getLsbD y j) e
  simp only [BitVec.getLsbD_and, BitVec.getLsbD_not, hj, decide_true, Bool.true_and, BitVec.getLsbD_zero] at h1
  simp only [BitVec.getLsbD_and]
  cases h2 : z.getLsbD j
  · rfl
  · rw [h2, Bool.true_and] at h1
    simpa using h1
section
variable {ρ : Nat → BitVec 64}
instance (x y : BitVec 64) (t i : Int) (z : BitVec 64) [r : Rf ρ x] [Rf ρ z] : Rf ρ (setF x y t i z).1 :=
  ⟨if 64 ≤ IntKind.i64.wrap (i * t) then r.e else (inferInstance : Rf ρ (put x (maskF t) (shW (IntKind.i64.wrap (i * t))) z)).e, by
    unfold setF
    split
    · exact r.ok
    · exact (inferInstance : Rf ρ (put x (maskF t) (shW (IntKind.i64.wrap (i * t))) z)).ok⟩
instance (x y : BitVec 64) (t i : Int) (z : BitVec 64) [s : Rf ρ y] [Rf ρ z] : Rf ρ (setF x y t i z).2 :=
  ⟨if 64 ≤ IntKind.i64.wrap (i * t) then (inferInstance : Rf ρ (put y (maskF t) (shW (IntKind.i64.wrap (IntKind.i64.wrap (i * t) - 64))) z)).e else s.e, by
    unfold setF
    split
    · exact (inferInstance : Rf ρ (put y (maskF t) (shW (IntKind.i64.wrap (IntKind.i64.wrap (i * t) - 64))) z)).ok
    · exact s.ok⟩
end
end Go.L08
/-!
Chapter 06: splat; works.
-/
namespace Go.L08
open Go.Ev Go.Proofs Go.RowKit Go.Rt
open Go.Wh

theorem Snd.restrict {f : Nat} {s s' : Ev.Spec} (hs : Snd f s) (h : ∀ ds K r, s' ds K = some r → s ds K = some r) : Snd f s' := fun ds K r hK => hs ds K r (h ds K r hK)

noncomputable def isNoS : Ev.Spec := guarded fun | [.i .i64 t, .u64 x] => some (!isF t x, .bool false) | _ => none
theorem isNo40 : Snd 49 isNoS := is40.restrict fun ds K r h => by
  unfold isNoS guarded at h
  simp only [] at h
  split at h
  · rename_i b d hd
    split at hd
    · cases hd
      split at h
      · rename_i t x hb
        have : isF t x = false := by simpa using hb
        simp only [isS, joined, this]
        exact h
      · cases h
    · cases hd
  · cases h

def dbl (x : BitVec 64) (k : Nat) : BitVec 64 := x ||| x <<< k
/-- One number in all lanes. -/
def splW (t : Int) (x : BitVec 64) : BitVec 64 :=
  if t = 8 then dbl (dbl (dbl x 8) 16) 32 else if t = 16 then dbl (dbl x 16) 32 else if t = 32 then dbl x 32 else x
noncomputable def SplS : Ev.Spec := joined fun | [.i .i64 t, .u64 x] => some (.tup [vec (ifF (isF t x) (splW t x)) (ifF (isF t x) (splW t x)), .i .i64 (errF (isF t x))]) | _ => none
def ann23 : Nat → List Nat := fun | 3 => [0, 1, 4] | _ => []
theorem spl23no (t : Int) (x : BitVec 64) : ex [(49, isNoS)] ann23 Tryd.f34 [.i .i64 t, .u64 x] some = if (!isF t x) = true then some (.tup [vec 0#64 0#64, .i .i64 2]) else none := by kernel_rfl
abbrev Spl23at (t : Int) : Prop := ∀ x, ex [(49, isS)] ann23 Tryd.f34 [.i .i64 t, .u64 x] some = if (!isF t x) = true then some (.tup [vec 0#64 0#64, .i .i64 2]) else some (.tup [vec (splW t x) (splW t x), .i .i64 0])
theorem spl23_8 : Spl23at 8 := fun x => by kernel_rfl
theorem spl23_16 : Spl23at 16 := fun x => by kernel_rfl
theorem spl23_32 : Spl23at 32 := fun x => by kernel_rfl
theorem spl23_64 : Spl23at 64 := fun x => by kernel_rfl
theorem Spl23 : Snd 34 SplS := by
  intro ds K r hK
  by_cases hok : ∃ t x, ds = [.i .i64 t, .u64 x] ∧ isF t x = true
  · have hS : Snd 34 (guarded fun
      | [.i .i64 t, .u64 x] => some (isF t x, .tup [vec (splW t x) (splW t x), .i .i64 0])
      | _ => none) := by
      refine Sound.guard (execFn_sound (ann := ann23) (TableOK.cons is40 TableOK.nil) mixed Tryd.func34 (by kernel_rfl) 50) fun ds d h => ?_
      split at h
      · rename_i t x
        simp only [Option.some.injEq, Prod.mk.injEq] at h
        obtain ⟨h, rfl⟩ := h
        have hw : okW t = true := by
          unfold isF at h
          rw [Bool.and_eq_true] at h
          exact h.1
        have key : Spl23at t := by
          rcases okW_cases hw with rfl | rfl | rfl | rfl
          · exact spl23_8
          · exact spl23_16
          · exact spl23_32
          · exact spl23_64
        refine (key x).trans ?_
        rw [h]; rfl
      · cases h
    obtain ⟨t, x, rfl, h⟩ := hok
    refine hS _ K r ?_
    simp only [SplS, joined, h] at hK
    simp only [guarded, h]
    exact hK
  · have hS : Snd 34 (guarded fun
      | [.i .i64 t, .u64 x] => some (!isF t x, .tup [vec 0#64 0#64, .i .i64 2])
      | _ => none) := by
      refine Sound.guard (execFn_sound (ann := ann23) (TableOK.cons isNo40 TableOK.nil) mixed Tryd.func34 (by kernel_rfl) 50) fun ds d h => ?_
      split at h
      · rename_i t x
        simp only [Option.some.injEq, Prod.mk.injEq] at h
        obtain ⟨h, rfl⟩ := h
        refine (spl23no t x).trans ?_
        rw [h]; rfl
      · cases h
    refine hS _ K r ?_
    simp only [SplS, joined] at hK
    simp only [guarded]
    split at hK
    · rename_i d hd
      split at hd
      · rename_i t x
        have h : isF t x = false := by
          rw [← Bool.not_eq_true]
          intro h; exact hok ⟨t, x, rfl, h⟩
        cases hd
        rw [h] at hK
        simp only [h]
        exact hK
      · cases hd
    · cases hK

noncomputable def worksS : Ev.Spec := joined fun | [] => some (.bool true) | _ => none
end Go.L08
/-!
Chapter 06: all lanes; the vector of lanes; splat by the reference.
-/
namespace Go.L08
open Go.Ev Go.Proofs Go.RowKit Go.Rt
open Go.Wh

abbrev nilS : D := .c (.slice none 0 0)
def allF : List D → Option (Bool × D × D)
  | [.agg [.u64 x, .u64 y], .i .i64 w] => some (okW w, .tup [.sl64 (listF x y w), .i .i64 0], .tup [nilS, .i .i64 2])
  | _ => none
def ann28 : Nat → List Nat := fun | 5 => [1, 2, 6, 15, 16] | _ => []
theorem all28_8 (x y : BitVec 64) : ex [(49, isS), (50, getS)] ann28 Tryd.f26 [vec x y, .i .i64 8] some = some (.tup [.sl64 (listF x y 8), .i .i64 0]) := by kernel_rfl
theorem all28_16 (x y : BitVec 64) : ex [(49, isS), (50, getS)] ann28 Tryd.f26 [vec x y, .i .i64 16] some = some (.tup [.sl64 (listF x y 16), .i .i64 0]) := by kernel_rfl
theorem all28_32 (x y : BitVec 64) : ex [(49, isS), (50, getS)] ann28 Tryd.f26 [vec x y, .i .i64 32] some = some (.tup [.sl64 (listF x y 32), .i .i64 0]) := by kernel_rfl
theorem all28_64 (x y : BitVec 64) : ex [(49, isS), (50, getS)] ann28 Tryd.f26 [vec x y, .i .i64 64] some = some (.tup [.sl64 (listF x y 64), .i .i64 0]) := by kernel_rfl
theorem All28 : Snd 26 (two allF) := by
  refine Sound.both ?_ ?_
  · refine Sound.guard (execFn_sound (ann := ann28) (TableOK.cons is40 (TableOK.cons get41 TableOK.nil)) mixed Tryd.func26 (by kernel_rfl) 50) fun ds d h => ?_
    unfold allF at h
    split at h
    · rename_i b d' e' hF
      split at hF
      · rename_i x y w
        cases hF
        simp only [Option.some.injEq, Prod.mk.injEq] at h
        obtain ⟨h, rfl⟩ := h
        rcases okW_cases h with rfl | rfl | rfl | rfl
        · exact all28_8 x y
        · exact all28_16 x y
        · exact all28_32 x y
        · exact all28_64 x y
      · cases hF
    · cases h
  · refine Sound.guard (execFn_sound (ann := ann28) (TableOK.cons isNo40 TableOK.nil) mixed Tryd.func26 (by kernel_rfl) 50) fun ds d h => ?_
    unfold allF at h
    split at h
    · rename_i b d' e' hF
      split at hF
      · rename_i x y w
        cases hF
        simp only [Option.some.injEq, Prod.mk.injEq] at h
        obtain ⟨h, rfl⟩ := h
        have nf : ex [(49, isNoS)] ann28 Tryd.f26 [vec x y, .i .i64 w] some = if (!isF w 0#64) = true then some (.tup [nilS, .i .i64 2]) else none := by kernel_rfl
        refine nf.trans ?_
        rw [isF_zero, if_pos h]
      · cases hF
    · cases h
end Go.L08

/-
  Part of the proof; what its functions and lemmas say stands in the text.
-/
import Derived.Test.YtimaanpcglbnpaaDoorV08A
set_option linter.unusedSimpArgs false
set_option linter.unusedVariables false
/-!
Chapter 06: lanes and vectors.
-/
namespace Go.L08
open Go.Ev Go.Proofs Go.RowKit Go.Rt
open Go.Wh

/-- Bytes as a number, the first one lowest. -/
def asm : List (BitVec 8) → BitVec 64
  | [] => 0#64
  | b :: l => 256#64 * asm l + zx b

class RfL (ρ : Nat → BitVec 64) (l : List (BitVec 64)) where
  e : List RE
  ok : e.map (RE.sem ρ) = l
def chkL : List RE → List RE → Bool
  | [], [] => true
  | a :: l, b :: m => chk a b && chkL l m
  | _, _ => false
theorem chkL_ok (ρ : Nat → BitVec 64) : ∀ {l m : List RE}, chkL l m = true → l.map (RE.sem ρ) = m.map (RE.sem ρ)
  | [], [], _ => rfl
  | a :: l, b :: m, h => by
    simp only [chkL, Bool.and_eq_true] at h
    simp only [List.map_cons, chk_ok h.1 ρ, chkL_ok ρ h.2]
  | [], _ :: _, h => by cases h
  | _ :: _, [], h => by cases h
theorem routeL {ρ : Nat → BitVec 64} {a b : List (BitVec 64)} [ra : RfL ρ a] [rb : RfL ρ b] (h : chkL ra.e rb.e = true) : a = b := by
  rw [← ra.ok, ← rb.ok]; exact chkL_ok ρ h
section
variable {ρ : Nat → BitVec 64}
instance : RfL ρ [] := ⟨[], rfl⟩
instance (a : BitVec 64) (l : List (BitVec 64)) [r : Rf ρ a] [s : RfL ρ l] : RfL ρ (a :: l) := ⟨r.e :: s.e, by simp only [List.map_cons, r.ok, s.ok]⟩
instance : Rf ρ (asm []) := ⟨.lit 0, rfl⟩
instance (b : BitVec 8) (l : List (BitVec 8)) [r : Rf ρ (zx b)] [s : Rf ρ (asm l)] : Rf ρ (asm (b :: l)) := ⟨.add (.shl s.e 8) r.e, by simp only [RE.sem, r.ok, s.ok, asm, mul256]⟩
instance (x y : BitVec 64) (t i : Int) [r : Rf ρ x] [s : Rf ρ y] : Rf ρ (getF x y t i) :=
  ⟨if 64 ≤ IntKind.i64.wrap (i * t) then .and (.shr s.e (shW (IntKind.i64.wrap (IntKind.i64.wrap (i * t) - 64)))) (.lit (maskF t).toNat) else .and (.shr r.e (shW (IntKind.i64.wrap (i * t)))) (.lit (maskF t).toNat), by
    unfold getF
    split <;> simp [RE.sem, r.ok, s.ok]⟩
end

/-- All lanes. -/
def listF (x y : BitVec 64) (w : Int) : List (BitVec 64) := (List.range (128 / w).toNat).map (fun (i : Nat) => getF x y w i)
noncomputable def listS : Ev.Spec := guarded fun | [.agg [.u64 x, .u64 y], .i .i64 w] => some (okW w, .sl64 (listF x y w)) | _ => none
def ann35 : Nat → List Nat := fun | 8 => [1, 5, 6, 7, 8, 9] | 4 => [1, 5, 6, 7] | _ => []
theorem list8 (x y : BitVec 64) : ex [(67, bytesS)] ann35 Tryd.f31 [vec x y, .i .i64 8] some = some (.sl64 (listF x y 8)) := by
  have nf : ex [(67, bytesS)] ann35 Tryd.f31 [vec x y, .i .i64 8] some = some (.sl64 [asm [bt x 0], asm [bt x 8], asm [bt x 16], asm [bt x 24], asm [bt x 32], asm [bt x 40], asm [bt x 48], asm [bt x 56], asm [bt y 0], asm [bt y 8], asm [bt y 16], asm [bt y 24], asm [bt y 32], asm [bt y 40], asm [bt y 48], asm [bt y 56]]) := by kernel_rfl
  have e : [asm [bt x 0], asm [bt x 8], asm [bt x 16], asm [bt x 24], asm [bt x 32], asm [bt x 40], asm [bt x 48], asm [bt x 56], asm [bt y 0], asm [bt y 8], asm [bt y 16], asm [bt y 24], asm [bt y 32], asm [bt y 40], asm [bt y 48], asm [bt y 56]] = [getF x y 8 0, getF x y 8 1, getF x y 8 2, getF x y 8 3, getF x y 8 4, getF x y 8 5, getF x y 8 6, getF x y 8 7, getF x y 8 8, getF x y 8 9, getF x y 8 10, getF x y 8 11, getF x y 8 12, getF x y 8 13, getF x y 8 14, getF x y 8 15] := routeL (ρ := at3 x y 0#64) (by kernel_rfl)
  rw [nf, e]
  rfl
theorem list16 (x y : BitVec 64) : ex [(67, bytesS)] ann35 Tryd.f31 [vec x y, .i .i64 16] some = some (.sl64 (listF x y 16)) := by
  have nf : ex [(67, bytesS)] ann35 Tryd.f31 [vec x y, .i .i64 16] some = some (.sl64 [asm [bt x 0, bt x 8], asm [bt x 16, bt x 24], asm [bt x 32, bt x 40], asm [bt x 48, bt x 56], asm [bt y 0, bt y 8], asm [bt y 16, bt y 24], asm [bt y 32, bt y 40], asm [bt y 48, bt y 56]]) := by kernel_rfl
  have e : [asm [bt x 0, bt x 8], asm [bt x 16, bt x 24], asm [bt x 32, bt x 40], asm [bt x 48, bt x 56], asm [bt y 0, bt y 8], asm [bt y 16, bt y 24], asm [bt y 32, bt y 40], asm [bt y 48, bt y 56]] = [getF x y 16 0, getF x y 16 1, getF x y 16 2, getF x y 16 3, getF x y 16 4, getF x y 16 5, getF x y 16 6, getF x y 16 7] := routeL (ρ := at3 x y 0#64) (by kernel_rfl)
  rw [nf, e]
  rfl
theorem list32 (x y : BitVec 64) : ex [(67, bytesS)] ann35 Tryd.f31 [vec x y, .i .i64 32] some = some (.sl64 (listF x y 32)) := by
  have nf : ex [(67, bytesS)] ann35 Tryd.f31 [vec x y, .i .i64 32] some = some (.sl64 [asm [bt x 0, bt x 8, bt x 16, bt x 24], asm [bt x 32, bt x 40, bt x 48, bt x 56], asm [bt y 0, bt y 8, bt y 16, bt y 24], asm [bt y 32, bt y 40, bt y 48, bt y 56]]) := by kernel_rfl
  have e : [asm [bt x 0, bt x 8, bt x 16, bt x 24], asm [bt x 32, bt x 40, bt x 48, bt x 56], asm [bt y 0, bt y 8, bt y 16, bt y 24], asm [bt y 32, bt y 40, bt y 48, bt y 56]] = [getF x y 32 0, getF x y 32 1, getF x y 32 2, getF x y 32 3] := routeL (ρ := at3 x y 0#64) (by kernel_rfl)
  rw [nf, e]
  rfl
theorem list64 (x y : BitVec 64) : ex [(67, bytesS)] ann35 Tryd.f31 [vec x y, .i .i64 64] some = some (.sl64 (listF x y 64)) := by
  have nf : ex [(67, bytesS)] ann35 Tryd.f31 [vec x y, .i .i64 64] some = some (.sl64 [asm [bt x 0, bt x 8, bt x 16, bt x 24, bt x 32, bt x 40, bt x 48, bt x 56], asm [bt y 0, bt y 8, bt y 16, bt y 24, bt y 32, bt y 40, bt y 48, bt y 56]]) := by kernel_rfl
  have e : [asm [bt x 0, bt x 8, bt x 16, bt x 24, bt x 32, bt x 40, bt x 48, bt x 56], asm [bt y 0, bt y 8, bt y 16, bt y 24, bt y 32, bt y 40, bt y 48, bt y 56]] = [getF x y 64 0, getF x y 64 1] := routeL (ρ := at3 x y 0#64) (by kernel_rfl)
  rw [nf, e]
  rfl
theorem list35 : Snd 31 listS := by
  refine Sound.guard (execFn_sound (ann := ann35) (TableOK.cons bytes25 TableOK.nil) mixed Tryd.func31 (by kernel_rfl) 50) fun ds d h => ?_
  split at h
  · rename_i x y w
    simp only [Option.some.injEq, Prod.mk.injEq] at h
    obtain ⟨h, rfl⟩ := h
    rcases okW_cases h with rfl | rfl | rfl | rfl
    · exact list8 x y
    · exact list16 x y
    · exact list32 x y
    · exact list64 x y
  · cases h

/-- The vector of lanes. -/
def vecB (w : Nat) (l : List (BitVec 64)) : List (BitVec 8) := l.flatMap (fun a => (List.range (w / 8)).map (fun k => bt a (8 * k)))
def vecF (w : Int) (l : List (BitVec 64)) : BitVec 64 × BitVec 64 := (asm ((vecB w.toNat l).take 8), asm ((vecB w.toNat l).drop 8))
noncomputable def vecS : Ev.Spec := guarded fun | [.i .i64 w, .sl64 l] => some (okW w && decide (l.length = (128 / w).toNat), vec (vecF w l).1 (vecF w l).2) | _ => none
def ann45 : Nat → List Nat := fun | 6 => [0, 1, 4, 5, 6, 7] | 3 => [0, 1, 4, 5, 6] | _ => []
theorem len_cons {α : Type} {l : List α} {n : Nat} (h : l.length = n + 1) : ∃ a t, l = a :: t ∧ t.length = n := by
  cases l with
  | nil => cases h
  | cons a t => exact ⟨a, t, rfl, by simpa using h⟩
theorem len_nil {α : Type} {l : List α} (h : l.length = 0) : l = [] := List.eq_nil_of_length_eq_zero h
theorem vec8 (l : List (BitVec 64)) (h : l.length = 16) : ex [(74, ofBytesS)] ann45 Tryd.f33 [.i .i64 8, .sl64 l] some = some (vec (vecF 8 l).1 (vecF 8 l).2) := by
  obtain ⟨a0, l0, rfl, h0⟩ := len_cons h
  obtain ⟨a1, l1, rfl, h1⟩ := len_cons h0
  obtain ⟨a2, l2, rfl, h2⟩ := len_cons h1
  obtain ⟨a3, l3, rfl, h3⟩ := len_cons h2
  obtain ⟨a4, l4, rfl, h4⟩ := len_cons h3
  obtain ⟨a5, l5, rfl, h5⟩ := len_cons h4
  obtain ⟨a6, l6, rfl, h6⟩ := len_cons h5
  obtain ⟨a7, l7, rfl, h7⟩ := len_cons h6
  obtain ⟨a8, l8, rfl, h8⟩ := len_cons h7
  obtain ⟨a9, l9, rfl, h9⟩ := len_cons h8
  obtain ⟨a10, l10, rfl, h10⟩ := len_cons h9
  obtain ⟨a11, l11, rfl, h11⟩ := len_cons h10
  obtain ⟨a12, l12, rfl, h12⟩ := len_cons h11
  obtain ⟨a13, l13, rfl, h13⟩ := len_cons h12
  obtain ⟨a14, l14, rfl, h14⟩ := len_cons h13
  obtain ⟨a15, l15, rfl, h15⟩ := len_cons h14
  obtain rfl := len_nil h15
  kernel_rfl
theorem vec16 (l : List (BitVec 64)) (h : l.length = 8) : ex [(74, ofBytesS)] ann45 Tryd.f33 [.i .i64 16, .sl64 l] some = some (vec (vecF 16 l).1 (vecF 16 l).2) := by
  obtain ⟨a0, l0, rfl, h0⟩ := len_cons h
  obtain ⟨a1, l1, rfl, h1⟩ := len_cons h0
  obtain ⟨a2, l2, rfl, h2⟩ := len_cons h1
  obtain ⟨a3, l3, rfl, h3⟩ := len_cons h2
  obtain ⟨a4, l4, rfl, h4⟩ := len_cons h3
  obtain ⟨a5, l5, rfl, h5⟩ := len_cons h4
  obtain ⟨a6, l6, rfl, h6⟩ := len_cons h5
  obtain ⟨a7, l7, rfl, h7⟩ := len_cons h6
  obtain rfl := len_nil h7
  kernel_rfl
theorem vec32 (l : List (BitVec 64)) (h : l.length = 4) : ex [(74, ofBytesS)] ann45 Tryd.f33 [.i .i64 32, .sl64 l] some = some (vec (vecF 32 l).1 (vecF 32 l).2) := by
  obtain ⟨a0, l0, rfl, h0⟩ := len_cons h
  obtain ⟨a1, l1, rfl, h1⟩ := len_cons h0
  obtain ⟨a2, l2, rfl, h2⟩ := len_cons h1
  obtain ⟨a3, l3, rfl, h3⟩ := len_cons h2
  obtain rfl := len_nil h3
  kernel_rfl
theorem vec64 (l : List (BitVec 64)) (h : l.length = 2) : ex [(74, ofBytesS)] ann45 Tryd.f33 [.i .i64 64, .sl64 l] some = some (vec (vecF 64 l).1 (vecF 64 l).2) := by
  obtain ⟨a0, l0, rfl, h0⟩ := len_cons h
  obtain ⟨a1, l1, rfl, h1⟩ := len_cons h0
  obtain rfl := len_nil h1
  kernel_rfl
theorem vec45 : Snd 33 vecS := by
  refine Sound.guard (execFn_sound (ann := ann45) (TableOK.cons ofBytes27 TableOK.nil) mixed Tryd.func33 (by kernel_rfl) 50) fun ds d h => ?_
  split at h
  · rename_i w l
    simp only [Option.some.injEq, Prod.mk.injEq, Bool.and_eq_true, decide_eq_true_eq] at h
    obtain ⟨⟨h, hl⟩, rfl⟩ := h
    rcases okW_cases h with rfl | rfl | rfl | rfl
    · exact vec8 l hl
    · exact vec16 l hl
    · exact vec32 l hl
    · exact vec64 l hl
  · cases h
end Go.L08

/-
  Part of the proof; what its functions and lemmas say stands in the text.
-/
import Derived.Test.YtakonchpkchfhaaDoorWh9
set_option linter.unusedSimpArgs false
set_option linter.unusedVariables false
/-!
Whole numbers: sums and products of a width.
-/
namespace Go.Wh
open Go.Ev Go.RowKit

theorem may_of {w : Int} {a b : BitVec 64} (ha : fitF w a = true) (hb : fitF w b = true) : mayF w [a, b] = true := by
  simp only [fitF, Bool.and_eq_true] at ha hb
  simp only [mayF, List.all_cons, List.all_nil, Bool.and_true, ha, hb, Bool.and_self]
theorem twoN_eq {o : BitVec 8} {w : Int} {a b : BitVec 64} (ha : fitF w a = true) (hb : fitF w b = true) : twoN o w a b = twoV o w a b := by
  simp only [twoN, may_of ha hb, ifF, if_true]
theorem two1 {w : Int} {a b : BitVec 64} (ha : fitF w a = true) (hb : fitF w b = true) : twoN 1#8 w a b = a + b &&& maskF w := (twoN_eq ha hb).trans rfl
theorem two2 {w : Int} {a b : BitVec 64} (ha : fitF w a = true) (hb : fitF w b = true) : twoN 2#8 w a b = a - b &&& maskF w := (twoN_eq ha hb).trans rfl
theorem two3 {w : Int} {a b : BitVec 64} (ha : fitF w a = true) (hb : fitF w b = true) : twoN 3#8 w a b = a * b &&& maskF w := (twoN_eq ha hb).trans rfl
theorem pw_dvd {w : Int} (h : okW w = true) : pw w ∣ 18446744073709551616 := by
  rcases okW_cases h with rfl | rfl | rfl | rfl
  · exact ⟨72057594037927936, by decide⟩
  · exact ⟨281474976710656, by decide⟩
  · exact ⟨4294967296, by decide⟩
  · exact ⟨1, by decide⟩
theorem add_int (x y : BitVec 64) : ((x + y).toNat : Int) = ((x.toNat : Int) + y.toNat) % 18446744073709551616 := by
  rw [BitVec.toNat_add]; omega
theorem mul_int (x y : BitVec 64) : ((x * y).toNat : Int) = ((x.toNat : Int) * y.toNat) % 18446744073709551616 := by
  rw [BitVec.toNat_mul]; simp
theorem sub_int (x y : BitVec 64) : ((x - y).toNat : Int) = ((x.toNat : Int) - y.toNat) % 18446744073709551616 := by
  rw [BitVec.toNat_sub]
  have := x.isLt
  have := y.isLt
  omega
theorem and_add_l {w : Int} (h : okW w = true) (x y : BitVec 64) : (x &&& maskF w) + y &&& maskF w = x + y &&& maskF w := by
  refine eq_nat ?_
  rw [and_nat h, and_nat h, add_int, add_int, and_nat h, Int.emod_emod_of_dvd _ (pw_dvd h), Int.emod_emod_of_dvd _ (pw_dvd h), Int.emod_add_emod]
theorem and_add_r {w : Int} (h : okW w = true) (x y : BitVec 64) : x + (y &&& maskF w) &&& maskF w = x + y &&& maskF w := by
  rw [BitVec.add_comm, and_add_l h, BitVec.add_comm]
theorem and_mul_l {w : Int} (h : okW w = true) (x y : BitVec 64) : (x &&& maskF w) * y &&& maskF w = x * y &&& maskF w := by
  refine eq_nat ?_
  rw [and_nat h, and_nat h, mul_int, mul_int, and_nat h, Int.emod_emod_of_dvd _ (pw_dvd h), Int.emod_emod_of_dvd _ (pw_dvd h), Int.mul_emod, Int.emod_emod, ← Int.mul_emod]
theorem and_mul_r {w : Int} (h : okW w = true) (x y : BitVec 64) : x * (y &&& maskF w) &&& maskF w = x * y &&& maskF w := by
  rw [BitVec.mul_comm, and_mul_l h, BitVec.mul_comm]
theorem and_sub_l {w : Int} (h : okW w = true) (x y : BitVec 64) : (x &&& maskF w) - y &&& maskF w = x - y &&& maskF w := by
  refine eq_nat ?_
  rw [and_nat h, and_nat h, sub_int, sub_int, and_nat h, Int.emod_emod_of_dvd _ (pw_dvd h), Int.emod_emod_of_dvd _ (pw_dvd h), Int.emod_sub_emod]
theorem fit_id {w : Int} {a : BitVec 64} (h : fitF w a = true) : a &&& maskF w = a := by
  simp only [fitF, Bool.and_eq_true, decide_eq_true_eq] at h
  exact and_fit h.1 h.2
def T : Option D := some (.bool true)
def F : Option D := some (.bool false)
def ringG (N : BitVec 8 → Int → BitVec 64 → BitVec 64 → BitVec 64) (w : Int) (a b c : BitVec 64) : Option D :=
  if (!(N 1#8 w a b == N 1#8 w b a)) = false then
    if (!(N 3#8 w a b == N 3#8 w b a)) = false then
      if (!(N 2#8 w (N 1#8 w a b) b == a)) = true then F else
      if (!(N 1#8 w (N 1#8 w a b) c == N 1#8 w a (N 1#8 w b c))) = false then
        if (!(N 3#8 w (N 3#8 w a b) c == N 3#8 w a (N 3#8 w b c))) = true then F else
        if (N 3#8 w c (N 1#8 w a b) == N 1#8 w (N 3#8 w c a) (N 3#8 w c b)) = true then T else F
      else F
    else F
  else F
theorem ring_end {w : Int} {a b c : BitVec 64} (ha : fitF w a = true) (hb : fitF w b = true) (hc : fitF w c = true) : ringG twoN w a b c = T := by
  have h := (fitF_nat ha).1
  have f : ∀ x, fitF w (x &&& maskF w) = true := fit_and h
  unfold ringG
  simp only [two1, two2, two3, ha, hb, hc, f, and_add_l h, and_add_r h, and_mul_l h, and_mul_r h, and_sub_l h]
  have e1 : a + b - b &&& maskF w = a := by rw [BitVec.add_sub_cancel, fit_id ha]
  have e2 : a + b + c = a + (b + c) := BitVec.add_assoc _ _ _
  have e3 : a * b * c = a * (b * c) := BitVec.mul_assoc _ _ _
  have e4 : c * (a + b) = c * a + c * b := BitVec.mul_add
  rw [e1, e2, e3, e4, BitVec.add_comm a b, BitVec.mul_comm a b]
  simp
end Go.Wh

/-
  Part of the proof; what its functions and lemmas say stands in the text.
-/
import Derived.Test.YtakonchpkchfhaaDoorWh1
set_option linter.unusedSimpArgs false
set_option linter.unusedVariables false
/-!
Whole numbers: signed worths.
-/
namespace Go.Wh
open Go.Ev Go.RowKit

theorem maskF8 : maskF 8 = 255#64 := by decide
theorem maskF16 : maskF 16 = 65535#64 := by decide
theorem maskF32 : maskF 32 = 4294967295#64 := by decide
theorem maskF64 : maskF 64 = 18446744073709551615#64 := by decide
theorem sOfU64 (x : BitVec 64) : sOfU .i64 x = x.toInt := by
  unfold sOfU
  rw [if_neg (by decide)]
  simp [IntKind.bits]
theorem wrap64 (n : Int) : IntKind.i64.wrap n = if (n % 18446744073709551616) ≥ 9223372036854775808 then n % 18446744073709551616 - 18446744073709551616 else n % 18446744073709551616 := by
  simp [IntKind.wrap, IntKind.signed, IntKind.bits]
theorem wrap_in {n : Int} (h1 : -9223372036854775808 ≤ n) (h2 : n < 9223372036854775808) : IntKind.i64.wrap n = n := by
  rw [wrap64]
  split <;> omega
theorem toInt64 (x : BitVec 64) : x.toInt = if x.toNat < 9223372036854775808 then (x.toNat : Int) else (x.toNat : Int) - 18446744073709551616 := by
  rw [BitVec.toInt_eq_toNat_cond]
  have := x.isLt
  split <;> split <;> omega
/-- How many numbers a width has. -/
def pw (w : Int) : Int := if w = 8 then 256 else if w = 16 then 65536 else if w = 32 then 4294967296 else 18446744073709551616
theorem pw8 : pw 8 = 256 := rfl
theorem pw16 : pw 16 = 65536 := rfl
theorem pw32 : pw 32 = 4294967296 := rfl
theorem pw64 : pw 64 = 18446744073709551616 := rfl
/-- A number's signed worth. -/
def sgnF (w : Int) (a : BitVec 64) : Int := if 2 * (a.toNat : Int) < pw w then (a.toNat : Int) else (a.toNat : Int) - pw w
def fitF (w : Int) (a : BitVec 64) : Bool := okW w && decide (a ≤ maskF w)
theorem fitF_nat {w : Int} {a : BitVec 64} (h : fitF w a = true) : okW w = true ∧ (a.toNat : Int) < pw w := by
  simp only [fitF, Bool.and_eq_true, decide_eq_true_eq] at h
  obtain ⟨hw, ha⟩ := h
  refine ⟨hw, ?_⟩
  rw [BitVec.le_def] at ha
  rcases okW_cases hw with rfl | rfl | rfl | rfl
  · rw [maskF8] at ha; rw [pw8]; simp at ha; omega
  · rw [maskF16] at ha; rw [pw16]; simp at ha; omega
  · rw [maskF32] at ha; rw [pw32]; simp at ha; omega
  · rw [pw64]; have := a.isLt; omega
theorem worth8 {a : BitVec 64} (h : (a.toNat : Int) < 256) : sOfU .i64 (a <<< 56) / 2 ^ 56 = sgnF 8 a := by
  rw [sOfU64, toInt64, BitVec.toNat_shiftLeft, Nat.shiftLeft_eq]
  unfold sgnF
  rw [pw8]
  have e : a.toNat * 2 ^ 56 % 2 ^ 64 = a.toNat * 2 ^ 56 := Nat.mod_eq_of_lt (by omega)
  rw [e]
  split <;> split <;> omega
theorem worth16 {a : BitVec 64} (h : (a.toNat : Int) < 65536) : sOfU .i64 (a <<< 48) / 2 ^ 48 = sgnF 16 a := by
  rw [sOfU64, toInt64, BitVec.toNat_shiftLeft, Nat.shiftLeft_eq]
  unfold sgnF
  rw [pw16]
  have e : a.toNat * 2 ^ 48 % 2 ^ 64 = a.toNat * 2 ^ 48 := Nat.mod_eq_of_lt (by omega)
  rw [e]
  split <;> split <;> omega
theorem worth32 {a : BitVec 64} (h : (a.toNat : Int) < 4294967296) : sOfU .i64 (a <<< 32) / 2 ^ 32 = sgnF 32 a := by
  rw [sOfU64, toInt64, BitVec.toNat_shiftLeft, Nat.shiftLeft_eq]
  unfold sgnF
  rw [pw32]
  have e : a.toNat * 2 ^ 32 % 2 ^ 64 = a.toNat * 2 ^ 32 := Nat.mod_eq_of_lt (by omega)
  rw [e]
  split <;> split <;> omega
theorem worth64 (a : BitVec 64) : sOfU .i64 (a <<< 0) / 2 ^ 0 = sgnF 64 a := by
  rw [sOfU64, toInt64, BitVec.toNat_shiftLeft, Nat.shiftLeft_eq]
  unfold sgnF
  rw [pw64]
  have := a.isLt
  have e : a.toNat * 2 ^ 0 % 2 ^ 64 = a.toNat := by omega
  rw [e]
  split <;> split <;> omega
theorem mask_nat {w : Int} (h : okW w = true) : ((maskF w).toNat : Int) = pw w - 1 := by
  rcases okW_cases h with rfl | rfl | rfl | rfl <;> decide
theorem pw_even {w : Int} (h : okW w = true) : ∃ k : Int, pw w = 2 * k ∧ 128 ≤ k ∧ k ≤ 9223372036854775808 := by
  rcases okW_cases h with rfl | rfl | rfl | rfl
  · exact ⟨128, rfl, by omega, by omega⟩
  · exact ⟨32768, rfl, by omega, by omega⟩
  · exact ⟨2147483648, rfl, by omega, by omega⟩
  · exact ⟨9223372036854775808, rfl, by omega, by omega⟩
theorem half_nat {w : Int} (h : okW w = true) : ((maskF w / 2#64).toNat : Int) = pw w / 2 - 1 := by
  rcases okW_cases h with rfl | rfl | rfl | rfl <;> decide
/-- The reference's worth. -/
theorem refWorth {w : Int} {a : BitVec 64} (h : fitF w a = true) : (if decide (a ≤ maskF w / BitVec.ofInt 64 2) = true then sOfU .i64 a else IntKind.i64.wrap (IntKind.i64.wrap (0 - sOfU .i64 (maskF w - a)) - 1)) = sgnF w a := by
  obtain ⟨hw, ha⟩ := fitF_nat h
  obtain ⟨k, hk, k1, k2⟩ := pw_even hw
  have e2 : BitVec.ofInt 64 2 = 2#64 := rfl
  have hm := mask_nat hw
  have hh := half_nat hw
  have al := a.isLt
  have ml := (maskF w).isLt
  simp only [e2, decide_eq_true_eq, BitVec.le_def]
  unfold sgnF
  by_cases hc : a.toNat ≤ (maskF w / 2#64).toNat
  · rw [if_pos hc, if_pos (by omega), sOfU64, toInt64, if_pos (by omega)]
  · have hs : (maskF w - a).toNat = (maskF w).toNat - a.toNat := by
      rw [BitVec.toNat_sub]; omega
    rw [if_neg hc, if_neg (by omega), sOfU64, toInt64, hs, if_pos (by omega)]
    have i1 : IntKind.i64.wrap (0 - (((maskF w).toNat - a.toNat : Nat) : Int)) = 0 - (((maskF w).toNat - a.toNat : Nat) : Int) := wrap_in (by omega) (by omega)
    rw [i1, wrap_in (by omega) (by omega)]
    omega
end Go.Wh

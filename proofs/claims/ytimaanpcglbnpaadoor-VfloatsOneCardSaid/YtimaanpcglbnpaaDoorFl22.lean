/-
  Part of the proof; what its functions and lemmas say stands in the text.
-/
import Derived.Test.YtimaanpcglbnpaaDoorFlC
set_option linter.unusedSimpArgs false
set_option linter.unusedVariables false
/-!
Floats: what is answered has no more bits than its width.
-/
namespace Go.Fl
open Ieee Go.Ev Go.RowKit Go.Wh

theorem wOK_in {w : Int} {a : BitVec 64} (h : inF w a = true) : wOK w = true := by
  unfold inF at h
  rw [Bool.and_eq_true] at h
  exact h.1
theorem in_le {w : Int} {a : BitVec 64} (h : inF w a = true) : a ≤ maskF w := by
  rw [BitVec.le_def]
  rcases inF_cases h with ⟨rfl, h2⟩ | rfl
  · have e : (maskF 32).toNat = 4294967295 := by decide
    rw [e]; omega
  · have e : (maskF 64).toNat = 18446744073709551615 := by decide
    have := a.isLt
    rw [e]; omega
theorem in_zero {w : Int} (h : wOK w = true) : inF w 0#64 = true := by rcases wOK_cases h with rfl | rfl <;> rfl
theorem in_sg {w : Int} (h : wOK w = true) : inF w (sgW w) = true := by rcases wOK_cases h with rfl | rfl <;> decide
theorem in_bits {w : Int} {a b c : BitVec 64} (ha : inF w a = true) (hb : inF w b = true) (h : ∀ i, a.getLsbD i = false → b.getLsbD i = false → c.getLsbD i = false) : inF w c = true := by
  have hw := wOK_in ha
  obtain ⟨k, hk, hs, hf, _⟩ := sg_pow hw
  have la := in_lt ha
  have lb := in_lt hb
  rw [in_iff hw]
  rw [hf, show 2 * 2 ^ k = 2 ^ (k + 1) by rw [Nat.pow_succ]; omega] at la lb ⊢
  exact lt_of_bits fun i h1 _ => h i (hi_zero la h1) (hi_zero lb h1)
theorem in_or {w : Int} {a b : BitVec 64} (ha : inF w a = true) (hb : inF w b = true) : inF w (a ||| b) = true := in_bits ha hb fun i h1 h2 => by rw [BitVec.getLsbD_or, h1, h2]; rfl
theorem in_and {w : Int} {a : BitVec 64} (b : BitVec 64) (ha : inF w a = true) : inF w (a &&& b) = true := in_bits ha ha fun i h1 _ => by rw [BitVec.getLsbD_and, h1]; rfl
theorem in_nat {w : Int} (hw : wOK w = true) {x : Nat} (h : x < 2 * (fmW w).signWeight) : inF w (BitVec.ofNat 64 x) = true := by
  rw [in_iff hw, BitVec.toNat_ofNat]
  exact Nat.lt_of_le_of_lt (Nat.mod_le _ _) h
theorem in_cl {w : Int} (hw : wOK w = true) {r : Option Nat} (h : ∀ x, r = some x → x < 2 * (fmW w).signWeight) : inF w (clO w r) = true := by
  cases r with
  | none => exact (na_no hw).1
  | some x =>
    unfold clO
    simp only
    split
    · exact (na_no hw).1
    · exact in_nat hw (h x rfl)
theorem in_ls {w : Int} (neg : Bool) {a b : BitVec 64} (ha : inF w a = true) (hb : inF w b = true) : inF w (lsW neg w a b) = true := by
  unfold lsW
  split
  · exact (na_no (wOK_in ha)).1
  · split
    · split
      · exact in_or ha hb
      · exact in_and _ ha
    · split
      · exact ha
      · exact hb
theorem in_tw {w : Int} (o : BitVec 8) {a b : BitVec 64} (ha : inF w a = true) (hb : inF w b = true) : inF w (twW o w a b) = true := by
  have hw := wOK_in ha
  unfold twW
  split
  · exact in_cl hw fun x hx => arN_lt (two_fm w) o hx
  · split
    · exact in_ls _ ha hb
    · split
      · exact in_ls _ ha hb
      · split
        · exact in_or (in_and _ ha) (in_and _ hb)
        · split
          · split
            · exact hb
            · exact ha
          · split
            · split
              · exact hb
              · exact ha
            · exact in_zero hw
theorem tw_fits {w : Int} (hw : wOK w = true) (o : BitVec 8) (a b : BitVec 64) : ftwV o w a b ≤ maskF w := by
  unfold ftwV
  split
  · rename_i hm
    obtain ⟨ha, hb⟩ := maW2 hm
    exact in_le (in_tw o ha hb)
  · exact in_le (in_zero hw)
theorem tw_err (o : BitVec 8) (w : Int) (a b : BitVec 64) : ftwE o w a b = 0 ∨ ftwE o w a b = 2 := by
  unfold ftwE twE
  split
  · split
    · exact .inl rfl
    · exact .inr rfl
  · exact .inr rfl
theorem th_err (o : BitVec 8) (w : Int) (a b : BitVec 64) : fthE o w a b = 0 ∨ fthE o w a b = 2 := by
  unfold fthE thE
  split
  · split
    · exact .inl rfl
    · exact .inr rfl
  · exact .inr rfl
theorem in_bs {w : Int} (hw : wOK w = true) (x : Nat) : inF w (bsV w x) = true := by
  unfold bsV
  split
  · exact (na_no hw).1
  · rcases wOK_cases hw with rfl | rfl
    · exact in_nat rfl (write_lt two_s _)
    · rfl
end Go.Fl

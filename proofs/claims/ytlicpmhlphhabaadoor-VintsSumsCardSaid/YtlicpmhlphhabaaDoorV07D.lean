/-
  Part of the proof; what its functions and lemmas say stands in the text.
-/
import Derived.Test.YtlicpmhlphhabaaDoorV07C
set_option linter.unusedSimpArgs false
set_option linter.unusedVariables false
/-!
Chapter 06: LanesBack: there and back.
-/
namespace Go.L07
open Go.Ev Go.Proofs Go.RowKit Go.Rt
open Go.Wh

/-! What is got is put again -/
theorem vecF_list8 (x y : BitVec 64) : vecF 8 (listF x y 8) = (x, y) := by
  have e : ∀ x : BitVec 64, asm [bt (x >>> 0 &&& maskF 8) 0, bt (x >>> 8 &&& maskF 8) 0, bt (x >>> 16 &&& maskF 8) 0, bt (x >>> 24 &&& maskF 8) 0, bt (x >>> 32 &&& maskF 8) 0, bt (x >>> 40 &&& maskF 8) 0, bt (x >>> 48 &&& maskF 8) 0, bt (x >>> 56 &&& maskF 8) 0] = x := fun x => route (ρ := at3 x 0#64 0#64) (by kernel_rfl)
  exact Prod.ext (Eq.trans (by kernel_rfl) (e x)) (Eq.trans (by kernel_rfl) (e y))
theorem vecF_list16 (x y : BitVec 64) : vecF 16 (listF x y 16) = (x, y) := by
  have e : ∀ x : BitVec 64, asm [bt (x >>> 0 &&& maskF 16) 0, bt (x >>> 0 &&& maskF 16) 8, bt (x >>> 16 &&& maskF 16) 0, bt (x >>> 16 &&& maskF 16) 8, bt (x >>> 32 &&& maskF 16) 0, bt (x >>> 32 &&& maskF 16) 8, bt (x >>> 48 &&& maskF 16) 0, bt (x >>> 48 &&& maskF 16) 8] = x := fun x => route (ρ := at3 x 0#64 0#64) (by kernel_rfl)
  exact Prod.ext (Eq.trans (by kernel_rfl) (e x)) (Eq.trans (by kernel_rfl) (e y))
theorem vecF_list32 (x y : BitVec 64) : vecF 32 (listF x y 32) = (x, y) := by
  have e : ∀ x : BitVec 64, asm [bt (x >>> 0 &&& maskF 32) 0, bt (x >>> 0 &&& maskF 32) 8, bt (x >>> 0 &&& maskF 32) 16, bt (x >>> 0 &&& maskF 32) 24, bt (x >>> 32 &&& maskF 32) 0, bt (x >>> 32 &&& maskF 32) 8, bt (x >>> 32 &&& maskF 32) 16, bt (x >>> 32 &&& maskF 32) 24] = x := fun x => route (ρ := at3 x 0#64 0#64) (by kernel_rfl)
  exact Prod.ext (Eq.trans (by kernel_rfl) (e x)) (Eq.trans (by kernel_rfl) (e y))
theorem vecF_list64 (x y : BitVec 64) : vecF 64 (listF x y 64) = (x, y) := by
  have e : ∀ x : BitVec 64, asm [bt (x >>> 0 &&& maskF 64) 0, bt (x >>> 0 &&& maskF 64) 8, bt (x >>> 0 &&& maskF 64) 16, bt (x >>> 0 &&& maskF 64) 24, bt (x >>> 0 &&& maskF 64) 32, bt (x >>> 0 &&& maskF 64) 40, bt (x >>> 0 &&& maskF 64) 48, bt (x >>> 0 &&& maskF 64) 56] = x := fun x => route (ρ := at3 x 0#64 0#64) (by kernel_rfl)
  exact Prod.ext (Eq.trans (by kernel_rfl) (e x)) (Eq.trans (by kernel_rfl) (e y))
theorem vecF_list (x y : BitVec 64) {w : Int} (h : okW w = true) : vecF w (listF x y w) = (x, y) := by
  rcases okW_cases h with rfl | rfl | rfl | rfl
  · exact vecF_list8 x y
  · exact vecF_list16 x y
  · exact vecF_list32 x y
  · exact vecF_list64 x y
theorem and_le (x m : BitVec 64) : x &&& m ≤ m := by
  rw [BitVec.le_def, BitVec.toNat_and]
  exact Nat.and_le_right
theorem okOf_list (x y : BitVec 64) {w : Int} (h : okW w = true) : okOf w (listF x y w) = true := by
  simp only [okOf, h, listF_length, decide_true, Bool.true_and, List.all_eq_true]
  intro z hz
  simp only [listF, List.mem_map] at hz
  obtain ⟨i, _, rfl⟩ := hz
  unfold getF
  split <;> exact decide_eq_true (and_le _ _)
theorem bytes_back (x : BitVec 64) : w8 (bt x 0) (bt x 8) (bt x 16) (bt x 24) (bt x 32) (bt x 40) (bt x 48) (bt x 56) = x := route (ρ := at3 x 0#64 0#64) (by kernel_rfl)
end Go.L07
/-!
Chapter 06: LanesSet: what is set is got.
-/
namespace Go.L07
open Go.Ev Go.Proofs Go.RowKit Go.Rt
open Go.Wh

def half8 (p : BitVec 64) : List (BitVec 64) := [p >>> 0 &&& maskF 8, p >>> 8 &&& maskF 8, p >>> 16 &&& maskF 8, p >>> 24 &&& maskF 8, p >>> 32 &&& maskF 8, p >>> 40 &&& maskF 8, p >>> 48 &&& maskF 8, p >>> 56 &&& maskF 8]
instance {ρ : Nat → BitVec 64} (p : BitVec 64) [Rf ρ p] : RfL ρ (half8 p) :=
  have h : RfL ρ [p >>> 0 &&& maskF 8, p >>> 8 &&& maskF 8, p >>> 16 &&& maskF 8, p >>> 24 &&& maskF 8, p >>> 32 &&& maskF 8, p >>> 40 &&& maskF 8, p >>> 48 &&& maskF 8, p >>> 56 &&& maskF 8] := inferInstance
  ⟨h.e, h.ok⟩
theorem half8_asm (z0 z1 z2 z3 z4 z5 z6 z7 : BitVec 64) : half8 (asm [bt (z0 &&& maskF 8) 0, bt (z1 &&& maskF 8) 0, bt (z2 &&& maskF 8) 0, bt (z3 &&& maskF 8) 0, bt (z4 &&& maskF 8) 0, bt (z5 &&& maskF 8) 0, bt (z6 &&& maskF 8) 0, bt (z7 &&& maskF 8) 0]) = [z0 &&& maskF 8, z1 &&& maskF 8, z2 &&& maskF 8, z3 &&& maskF 8, z4 &&& maskF 8, z5 &&& maskF 8, z6 &&& maskF 8, z7 &&& maskF 8] := routeL (ρ := atW z0 z1 z2 z3 z4 z5 z6 z7) (by kernel_rfl)
theorem listF_half8 (p q : BitVec 64) : listF p q 8 = half8 p ++ half8 q := by kernel_rfl
theorem list_vecF8 (l : List (BitVec 64)) (hl : l.length = 16) (hz : ∀ z ∈ l, z ≤ maskF 8) : listF (vecF 8 l).1 (vecF 8 l).2 8 = l := by
  have hw : okW 8 = true := by decide
  obtain ⟨z0, l0, rfl, h0⟩ := len_cons hl
  obtain ⟨z1, l1, rfl, h1⟩ := len_cons h0
  obtain ⟨z2, l2, rfl, h2⟩ := len_cons h1
  obtain ⟨z3, l3, rfl, h3⟩ := len_cons h2
  obtain ⟨z4, l4, rfl, h4⟩ := len_cons h3
  obtain ⟨z5, l5, rfl, h5⟩ := len_cons h4
  obtain ⟨z6, l6, rfl, h6⟩ := len_cons h5
  obtain ⟨z7, l7, rfl, h7⟩ := len_cons h6
  obtain ⟨z8, l8, rfl, h8⟩ := len_cons h7
  obtain ⟨z9, l9, rfl, h9⟩ := len_cons h8
  obtain ⟨z10, l10, rfl, h10⟩ := len_cons h9
  obtain ⟨z11, l11, rfl, h11⟩ := len_cons h10
  obtain ⟨z12, l12, rfl, h12⟩ := len_cons h11
  obtain ⟨z13, l13, rfl, h13⟩ := len_cons h12
  obtain ⟨z14, l14, rfl, h14⟩ := len_cons h13
  obtain ⟨z15, l15, rfl, h15⟩ := len_cons h14
  obtain rfl := len_nil h15
  have f0 := and_fit hw (hz z0 (by simp))
  have f1 := and_fit hw (hz z1 (by simp))
  have f2 := and_fit hw (hz z2 (by simp))
  have f3 := and_fit hw (hz z3 (by simp))
  have f4 := and_fit hw (hz z4 (by simp))
  have f5 := and_fit hw (hz z5 (by simp))
  have f6 := and_fit hw (hz z6 (by simp))
  have f7 := and_fit hw (hz z7 (by simp))
  have f8 := and_fit hw (hz z8 (by simp))
  have f9 := and_fit hw (hz z9 (by simp))
  have f10 := and_fit hw (hz z10 (by simp))
  have f11 := and_fit hw (hz z11 (by simp))
  have f12 := and_fit hw (hz z12 (by simp))
  have f13 := and_fit hw (hz z13 (by simp))
  have f14 := and_fit hw (hz z14 (by simp))
  have f15 := and_fit hw (hz z15 (by simp))
  rw [listF_half8]
  have e0 : half8 (vecF 8 [z0, z1, z2, z3, z4, z5, z6, z7, z8, z9, z10, z11, z12, z13, z14, z15]).1 = [z0, z1, z2, z3, z4, z5, z6, z7] := by
    refine Eq.trans (b := half8 (asm [bt z0 0, bt z1 0, bt z2 0, bt z3 0, bt z4 0, bt z5 0, bt z6 0, bt z7 0])) (by kernel_rfl) ?_
    rw [f0, f1, f2, f3, f4, f5, f6, f7]
    exact half8_asm z0 z1 z2 z3 z4 z5 z6 z7
  have e8 : half8 (vecF 8 [z0, z1, z2, z3, z4, z5, z6, z7, z8, z9, z10, z11, z12, z13, z14, z15]).2 = [z8, z9, z10, z11, z12, z13, z14, z15] := by
    refine Eq.trans (b := half8 (asm [bt z8 0, bt z9 0, bt z10 0, bt z11 0, bt z12 0, bt z13 0, bt z14 0, bt z15 0])) (by kernel_rfl) ?_
    rw [f8, f9, f10, f11, f12, f13, f14, f15]
    exact half8_asm z8 z9 z10 z11 z12 z13 z14 z15
  rw [e0, e8]; rfl
def half16 (p : BitVec 64) : List (BitVec 64) := [p >>> 0 &&& maskF 16, p >>> 16 &&& maskF 16, p >>> 32 &&& maskF 16, p >>> 48 &&& maskF 16]
instance {ρ : Nat → BitVec 64} (p : BitVec 64) [Rf ρ p] : RfL ρ (half16 p) :=
  have h : RfL ρ [p >>> 0 &&& maskF 16, p >>> 16 &&& maskF 16, p >>> 32 &&& maskF 16, p >>> 48 &&& maskF 16] := inferInstance
  ⟨h.e, h.ok⟩
theorem half16_asm (z0 z1 z2 z3 : BitVec 64) : half16 (asm [bt (z0 &&& maskF 16) 0, bt (z0 &&& maskF 16) 8, bt (z1 &&& maskF 16) 0, bt (z1 &&& maskF 16) 8, bt (z2 &&& maskF 16) 0, bt (z2 &&& maskF 16) 8, bt (z3 &&& maskF 16) 0, bt (z3 &&& maskF 16) 8]) = [z0 &&& maskF 16, z1 &&& maskF 16, z2 &&& maskF 16, z3 &&& maskF 16] := routeL (ρ := atW z0 z1 z2 z3 0#64 0#64 0#64 0#64) (by kernel_rfl)
theorem listF_half16 (p q : BitVec 64) : listF p q 16 = half16 p ++ half16 q := by kernel_rfl
theorem list_vecF16 (l : List (BitVec 64)) (hl : l.length = 8) (hz : ∀ z ∈ l, z ≤ maskF 16) : listF (vecF 16 l).1 (vecF 16 l).2 16 = l := by
  have hw : okW 16 = true := by decide
  obtain ⟨z0, l0, rfl, h0⟩ := len_cons hl
  obtain ⟨z1, l1, rfl, h1⟩ := len_cons h0
  obtain ⟨z2, l2, rfl, h2⟩ := len_cons h1
  obtain ⟨z3, l3, rfl, h3⟩ := len_cons h2
  obtain ⟨z4, l4, rfl, h4⟩ := len_cons h3
  obtain ⟨z5, l5, rfl, h5⟩ := len_cons h4
  obtain ⟨z6, l6, rfl, h6⟩ := len_cons h5
  obtain ⟨z7, l7, rfl, h7⟩ := len_cons h6
  obtain rfl := len_nil h7
  have f0 := and_fit hw (hz z0 (by simp))
  have f1 := and_fit hw (hz z1 (by simp))
  have f2 := and_fit hw (hz z2 (by simp))
  have f3 := and_fit hw (hz z3 (by simp))
  have f4 := and_fit hw (hz z4 (by simp))
  have f5 := and_fit hw (hz z5 (by simp))
  have f6 := and_fit hw (hz z6 (by simp))
  have f7 := and_fit hw (hz z7 (by simp))
  rw [listF_half16]
  have e0 : half16 (vecF 16 [z0, z1, z2, z3, z4, z5, z6, z7]).1 = [z0, z1, z2, z3] := by
    refine Eq.trans (b := half16 (asm [bt z0 0, bt z0 8, bt z1 0, bt z1 8, bt z2 0, bt z2 8, bt z3 0, bt z3 8])) (by kernel_rfl) ?_
    rw [f0, f1, f2, f3]
    exact half16_asm z0 z1 z2 z3
  have e4 : half16 (vecF 16 [z0, z1, z2, z3, z4, z5, z6, z7]).2 = [z4, z5, z6, z7] := by
    refine Eq.trans (b := half16 (asm [bt z4 0, bt z4 8, bt z5 0, bt z5 8, bt z6 0, bt z6 8, bt z7 0, bt z7 8])) (by kernel_rfl) ?_
    rw [f4, f5, f6, f7]
    exact half16_asm z4 z5 z6 z7
  rw [e0, e4]; rfl
def half32 (p : BitVec 64) : List (BitVec 64) := [p >>> 0 &&& maskF 32, p >>> 32 &&& maskF 32]
instance {ρ : Nat → BitVec 64} (p : BitVec 64) [Rf ρ p] : RfL ρ (half32 p) :=
  have h : RfL ρ [p >>> 0 &&& maskF 32, p >>> 32 &&& maskF 32] := inferInstance
  ⟨h.e, h.ok⟩
theorem half32_asm (z0 z1 : BitVec 64) : half32 (asm [bt (z0 &&& maskF 32) 0, bt (z0 &&& maskF 32) 8, bt (z0 &&& maskF 32) 16, bt (z0 &&& maskF 32) 24, bt (z1 &&& maskF 32) 0, bt (z1 &&& maskF 32) 8, bt (z1 &&& maskF 32) 16, bt (z1 &&& maskF 32) 24]) = [z0 &&& maskF 32, z1 &&& maskF 32] := routeL (ρ := atW z0 z1 0#64 0#64 0#64 0#64 0#64 0#64) (by kernel_rfl)
theorem listF_half32 (p q : BitVec 64) : listF p q 32 = half32 p ++ half32 q := by kernel_rfl
theorem list_vecF32 (l : List (BitVec 64)) (hl : l.length = 4) (hz : ∀ z ∈ l, z ≤ maskF 32) : listF (vecF 32 l).1 (vecF 32 l).2 32 = l := by
  have hw : okW 32 = true := by decide
  obtain ⟨z0, l0, rfl, h0⟩ := len_cons hl
  obtain ⟨z1, l1, rfl, h1⟩ := len_cons h0
  obtain ⟨z2, l2, rfl, h2⟩ := len_cons h1
  obtain ⟨z3, l3, rfl, h3⟩ := len_cons h2
  obtain rfl := len_nil h3
  have f0 := and_fit hw (hz z0 (by simp))
  have f1 := and_fit hw (hz z1 (by simp))
  have f2 := and_fit hw (hz z2 (by simp))
  have f3 := and_fit hw (hz z3 (by simp))
  rw [listF_half32]
  have e0 : half32 (vecF 32 [z0, z1, z2, z3]).1 = [z0, z1] := by
    refine Eq.trans (b := half32 (asm [bt z0 0, bt z0 8, bt z0 16, bt z0 24, bt z1 0, bt z1 8, bt z1 16, bt z1 24])) (by kernel_rfl) ?_
    rw [f0, f1]
    exact half32_asm z0 z1
  have e2 : half32 (vecF 32 [z0, z1, z2, z3]).2 = [z2, z3] := by
    refine Eq.trans (b := half32 (asm [bt z2 0, bt z2 8, bt z2 16, bt z2 24, bt z3 0, bt z3 8, bt z3 16, bt z3 24])) (by kernel_rfl) ?_
    rw [f2, f3]
    exact half32_asm z2 z3
  rw [e0, e2]; rfl
def half64 (p : BitVec 64) : List (BitVec 64) := [p >>> 0 &&& maskF 64]
instance {ρ : Nat → BitVec 64} (p : BitVec 64) [Rf ρ p] : RfL ρ (half64 p) :=
  have h : RfL ρ [p >>> 0 &&& maskF 64] := inferInstance
  ⟨h.e, h.ok⟩
theorem half64_asm (z0 : BitVec 64) : half64 (asm [bt (z0 &&& maskF 64) 0, bt (z0 &&& maskF 64) 8, bt (z0 &&& maskF 64) 16, bt (z0 &&& maskF 64) 24, bt (z0 &&& maskF 64) 32, bt (z0 &&& maskF 64) 40, bt (z0 &&& maskF 64) 48, bt (z0 &&& maskF 64) 56]) = [z0 &&& maskF 64] := routeL (ρ := atW z0 0#64 0#64 0#64 0#64 0#64 0#64 0#64) (by kernel_rfl)
theorem listF_half64 (p q : BitVec 64) : listF p q 64 = half64 p ++ half64 q := by kernel_rfl
theorem list_vecF64 (l : List (BitVec 64)) (hl : l.length = 2) (hz : ∀ z ∈ l, z ≤ maskF 64) : listF (vecF 64 l).1 (vecF 64 l).2 64 = l := by
  have hw : okW 64 = true := by decide
  obtain ⟨z0, l0, rfl, h0⟩ := len_cons hl
  obtain ⟨z1, l1, rfl, h1⟩ := len_cons h0
  obtain rfl := len_nil h1
  have f0 := and_fit hw (hz z0 (by simp))
  have f1 := and_fit hw (hz z1 (by simp))
  rw [listF_half64]
  have e0 : half64 (vecF 64 [z0, z1]).1 = [z0] := by
    refine Eq.trans (b := half64 (asm [bt z0 0, bt z0 8, bt z0 16, bt z0 24, bt z0 32, bt z0 40, bt z0 48, bt z0 56])) (by kernel_rfl) ?_
    rw [f0]
    exact half64_asm z0
  have e1 : half64 (vecF 64 [z0, z1]).2 = [z1] := by
    refine Eq.trans (b := half64 (asm [bt z1 0, bt z1 8, bt z1 16, bt z1 24, bt z1 32, bt z1 40, bt z1 48, bt z1 56])) (by kernel_rfl) ?_
    rw [f1]
    exact half64_asm z1
  rw [e0, e1]; rfl
theorem list_vecF {w : Int} {l : List (BitVec 64)} (h : okOf w l = true) : listF (vecF w l).1 (vecF w l).2 w = l := by
  obtain ⟨hw, hl, hz⟩ := okOf_cases h
  rcases okW_cases hw with rfl | rfl | rfl | rfl
  · exact list_vecF8 l hl hz
  · exact list_vecF16 l hl hz
  · exact list_vecF32 l hl hz
  · exact list_vecF64 l hl hz
end Go.L07

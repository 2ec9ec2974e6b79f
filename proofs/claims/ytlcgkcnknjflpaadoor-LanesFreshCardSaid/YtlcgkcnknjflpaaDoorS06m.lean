/-
  Part of the proof; what its functions and lemmas say stands in the text.
-/
import Derived.Test.YtlcgkcnknjflpaaDoorS06l
set_option linter.unusedSimpArgs false
set_option linter.unusedVariables false
/-!
Chapter 06: the vector of lanes, by both.
-/
namespace Go.L06
open Go.Ev Go.Proofs Go.RowKit Go.Rt

abbrev ofErr : D := .tup [vec 0#64 0#64, .i .i64 2]
theorem okOf_cases {w : Int} {l : List (BitVec 64)} (h : okOf w l = true) : okW w = true ∧ l.length = (128 / w).toNat ∧ ∀ z ∈ l, z ≤ maskF w := by
  simp only [okOf, Bool.and_eq_true, decide_eq_true_eq, List.all_eq_true] at h
  exact ⟨h.1.1, h.1.2, h.2⟩
theorem isF_yes {w : Int} {z : BitVec 64} (hw : okW w = true) (hz : z ≤ maskF w) : isF w z = true := by simp [isF, hw, hz]
theorem of30ok_8 (l : List (BitVec 64)) (hl : l.length = 16) (hz : ∀ z ∈ l, z ≤ maskF 8) : ex [(40, isYesS), (43, setC)] ann30 Tryd.f30 [.i .i64 8, .sl64 l] some = some (.tup [vec (vecF 8 l).1 (vecF 8 l).2, .i .i64 0]) := by
  have hw : okW 8 = true := by decide
  obtain ⟨z0, l0, rfl, h0⟩ := len_cons hl
  obtain ⟨z1, l1, rfl, h1⟩ := len_cons h0
  obtain ⟨z2, l2, rfl, h2⟩ := len_cons h1
  obtain ⟨z3, l3, rfl, h3⟩ := len_cons h2
  obtain ⟨z4, l4, rfl, h4⟩ := len_cons h3
  obtain ⟨z5, l5, rfl, h5⟩ := len_cons h4
  obtain ⟨z6, l6, rfl, h6⟩ := len_cons h5
  obtain ⟨z7, l7, rfl, h7⟩ := len_cons h6
  obtain ⟨z8, l8, rfl, h8⟩ := len_cons h7
  obtain ⟨z9, l9, rfl, h9⟩ := len_cons h8
  obtain ⟨z10, l10, rfl, h10⟩ := len_cons h9
  obtain ⟨z11, l11, rfl, h11⟩ := len_cons h10
  obtain ⟨z12, l12, rfl, h12⟩ := len_cons h11
  obtain ⟨z13, l13, rfl, h13⟩ := len_cons h12
  obtain ⟨z14, l14, rfl, h14⟩ := len_cons h13
  obtain ⟨z15, l15, rfl, h15⟩ := len_cons h14
  obtain rfl := len_nil h15
  have f0 : z0 ≤ maskF 8 := hz z0 (by simp)
  have f1 : z1 ≤ maskF 8 := hz z1 (by simp)
  have f2 : z2 ≤ maskF 8 := hz z2 (by simp)
  have f3 : z3 ≤ maskF 8 := hz z3 (by simp)
  have f4 : z4 ≤ maskF 8 := hz z4 (by simp)
  have f5 : z5 ≤ maskF 8 := hz z5 (by simp)
  have f6 : z6 ≤ maskF 8 := hz z6 (by simp)
  have f7 : z7 ≤ maskF 8 := hz z7 (by simp)
  have f8 : z8 ≤ maskF 8 := hz z8 (by simp)
  have f9 : z9 ≤ maskF 8 := hz z9 (by simp)
  have f10 : z10 ≤ maskF 8 := hz z10 (by simp)
  have f11 : z11 ≤ maskF 8 := hz z11 (by simp)
  have f12 : z12 ≤ maskF 8 := hz z12 (by simp)
  have f13 : z13 ≤ maskF 8 := hz z13 (by simp)
  have f14 : z14 ≤ maskF 8 := hz z14 (by simp)
  have f15 : z15 ≤ maskF 8 := hz z15 (by simp)
  refine (of30_8 z0 z1 z2 z3 z4 z5 z6 z7 z8 z9 z10 z11 z12 z13 z14 z15).trans ?_
  rw [chainG_ok (by
    intro b hb
    simp only [List.mem_cons, List.not_mem_nil, or_false] at hb
    rcases hb with rfl | rfl | rfl | rfl | rfl | rfl | rfl | rfl | rfl | rfl | rfl | rfl | rfl | rfl | rfl | rfl | rfl
    · rw [isF_zero]; exact hw
    · exact isF_yes hw f0
    · exact isF_yes hw f1
    · exact isF_yes hw f2
    · exact isF_yes hw f3
    · exact isF_yes hw f4
    · exact isF_yes hw f5
    · exact isF_yes hw f6
    · exact isF_yes hw f7
    · exact isF_yes hw f8
    · exact isF_yes hw f9
    · exact isF_yes hw f10
    · exact isF_yes hw f11
    · exact isF_yes hw f12
    · exact isF_yes hw f13
    · exact isF_yes hw f14
    · exact isF_yes hw f15
    )]
  have e : ∀ {a b c d : BitVec 64}, a = c → b = d → (some (D.tup [vec a b, .i .i64 0]) : Option D) = some (D.tup [vec c d, .i .i64 0]) := by
    intro a b c d h1 h2; rw [h1, h2]
  refine e ?_ ?_
  · rw [and_fit hw f0, and_fit hw f1, and_fit hw f2, and_fit hw f3, and_fit hw f4, and_fit hw f5, and_fit hw f6, and_fit hw f7]
    exact (of_route8 z0 z1 z2 z3 z4 z5 z6 z7).trans (by rw [← and_fit hw f0, ← and_fit hw f1, ← and_fit hw f2, ← and_fit hw f3, ← and_fit hw f4, ← and_fit hw f5, ← and_fit hw f6, ← and_fit hw f7]; rfl)
  · rw [and_fit hw f8, and_fit hw f9, and_fit hw f10, and_fit hw f11, and_fit hw f12, and_fit hw f13, and_fit hw f14, and_fit hw f15]
    exact (of_route8 z8 z9 z10 z11 z12 z13 z14 z15).trans (by rw [← and_fit hw f8, ← and_fit hw f9, ← and_fit hw f10, ← and_fit hw f11, ← and_fit hw f12, ← and_fit hw f13, ← and_fit hw f14, ← and_fit hw f15]; rfl)
theorem of30ok_16 (l : List (BitVec 64)) (hl : l.length = 8) (hz : ∀ z ∈ l, z ≤ maskF 16) : ex [(40, isYesS), (43, setC)] ann30 Tryd.f30 [.i .i64 16, .sl64 l] some = some (.tup [vec (vecF 16 l).1 (vecF 16 l).2, .i .i64 0]) := by
  have hw : okW 16 = true := by decide
  obtain ⟨z0, l0, rfl, h0⟩ := len_cons hl
  obtain ⟨z1, l1, rfl, h1⟩ := len_cons h0
  obtain ⟨z2, l2, rfl, h2⟩ := len_cons h1
  obtain ⟨z3, l3, rfl, h3⟩ := len_cons h2
  obtain ⟨z4, l4, rfl, h4⟩ := len_cons h3
  obtain ⟨z5, l5, rfl, h5⟩ := len_cons h4
  obtain ⟨z6, l6, rfl, h6⟩ := len_cons h5
  obtain ⟨z7, l7, rfl, h7⟩ := len_cons h6
  obtain rfl := len_nil h7
  have f0 : z0 ≤ maskF 16 := hz z0 (by simp)
  have f1 : z1 ≤ maskF 16 := hz z1 (by simp)
  have f2 : z2 ≤ maskF 16 := hz z2 (by simp)
  have f3 : z3 ≤ maskF 16 := hz z3 (by simp)
  have f4 : z4 ≤ maskF 16 := hz z4 (by simp)
  have f5 : z5 ≤ maskF 16 := hz z5 (by simp)
  have f6 : z6 ≤ maskF 16 := hz z6 (by simp)
  have f7 : z7 ≤ maskF 16 := hz z7 (by simp)
  refine (of30_16 z0 z1 z2 z3 z4 z5 z6 z7).trans ?_
  rw [chainG_ok (by
    intro b hb
    simp only [List.mem_cons, List.not_mem_nil, or_false] at hb
    rcases hb with rfl | rfl | rfl | rfl | rfl | rfl | rfl | rfl | rfl
    · rw [isF_zero]; exact hw
    · exact isF_yes hw f0
    · exact isF_yes hw f1
    · exact isF_yes hw f2
    · exact isF_yes hw f3
    · exact isF_yes hw f4
    · exact isF_yes hw f5
    · exact isF_yes hw f6
    · exact isF_yes hw f7
    )]
  have e : ∀ {a b c d : BitVec 64}, a = c → b = d → (some (D.tup [vec a b, .i .i64 0]) : Option D) = some (D.tup [vec c d, .i .i64 0]) := by
    intro a b c d h1 h2; rw [h1, h2]
  refine e ?_ ?_
  · rw [and_fit hw f0, and_fit hw f1, and_fit hw f2, and_fit hw f3]
    exact (of_route16 z0 z1 z2 z3).trans (by rw [← and_fit hw f0, ← and_fit hw f1, ← and_fit hw f2, ← and_fit hw f3]; rfl)
  · rw [and_fit hw f4, and_fit hw f5, and_fit hw f6, and_fit hw f7]
    exact (of_route16 z4 z5 z6 z7).trans (by rw [← and_fit hw f4, ← and_fit hw f5, ← and_fit hw f6, ← and_fit hw f7]; rfl)
theorem of30ok_32 (l : List (BitVec 64)) (hl : l.length = 4) (hz : ∀ z ∈ l, z ≤ maskF 32) : ex [(40, isYesS), (43, setC)] ann30 Tryd.f30 [.i .i64 32, .sl64 l] some = some (.tup [vec (vecF 32 l).1 (vecF 32 l).2, .i .i64 0]) := by
  have hw : okW 32 = true := by decide
  obtain ⟨z0, l0, rfl, h0⟩ := len_cons hl
  obtain ⟨z1, l1, rfl, h1⟩ := len_cons h0
  obtain ⟨z2, l2, rfl, h2⟩ := len_cons h1
  obtain ⟨z3, l3, rfl, h3⟩ := len_cons h2
  obtain rfl := len_nil h3
  have f0 : z0 ≤ maskF 32 := hz z0 (by simp)
  have f1 : z1 ≤ maskF 32 := hz z1 (by simp)
  have f2 : z2 ≤ maskF 32 := hz z2 (by simp)
  have f3 : z3 ≤ maskF 32 := hz z3 (by simp)
  refine (of30_32 z0 z1 z2 z3).trans ?_
  rw [chainG_ok (by
    intro b hb
    simp only [List.mem_cons, List.not_mem_nil, or_false] at hb
    rcases hb with rfl | rfl | rfl | rfl | rfl
    · rw [isF_zero]; exact hw
    · exact isF_yes hw f0
    · exact isF_yes hw f1
    · exact isF_yes hw f2
    · exact isF_yes hw f3
    )]
  have e : ∀ {a b c d : BitVec 64}, a = c → b = d → (some (D.tup [vec a b, .i .i64 0]) : Option D) = some (D.tup [vec c d, .i .i64 0]) := by
    intro a b c d h1 h2; rw [h1, h2]
  refine e ?_ ?_
  · rw [and_fit hw f0, and_fit hw f1]
    exact (of_route32 z0 z1).trans (by rw [← and_fit hw f0, ← and_fit hw f1]; rfl)
  · rw [and_fit hw f2, and_fit hw f3]
    exact (of_route32 z2 z3).trans (by rw [← and_fit hw f2, ← and_fit hw f3]; rfl)
theorem of30ok_64 (l : List (BitVec 64)) (hl : l.length = 2) (hz : ∀ z ∈ l, z ≤ maskF 64) : ex [(40, isYesS), (43, setC)] ann30 Tryd.f30 [.i .i64 64, .sl64 l] some = some (.tup [vec (vecF 64 l).1 (vecF 64 l).2, .i .i64 0]) := by
  have hw : okW 64 = true := by decide
  obtain ⟨z0, l0, rfl, h0⟩ := len_cons hl
  obtain ⟨z1, l1, rfl, h1⟩ := len_cons h0
  obtain rfl := len_nil h1
  have f0 : z0 ≤ maskF 64 := hz z0 (by simp)
  have f1 : z1 ≤ maskF 64 := hz z1 (by simp)
  refine (of30_64 z0 z1).trans ?_
  rw [chainG_ok (by
    intro b hb
    simp only [List.mem_cons, List.not_mem_nil, or_false] at hb
    rcases hb with rfl | rfl | rfl
    · rw [isF_zero]; exact hw
    · exact isF_yes hw f0
    · exact isF_yes hw f1
    )]
  have e : ∀ {a b c d : BitVec 64}, a = c → b = d → (some (D.tup [vec a b, .i .i64 0]) : Option D) = some (D.tup [vec c d, .i .i64 0]) := by
    intro a b c d h1 h2; rw [h1, h2]
  refine e ?_ ?_
  · rw [and_fit hw f0]
    exact (of_route64 z0).trans (by rw [← and_fit hw f0]; rfl)
  · rw [and_fit hw f1]
    exact (of_route64 z1).trans (by rw [← and_fit hw f1]; rfl)
theorem of30bad_8 (l : List (BitVec 64)) (hl : l.length = 16) (hz : ¬ ∀ z ∈ l, z ≤ maskF 8) : ex [(40, isS), (43, setC)] ann30 Tryd.f30 [.i .i64 8, .sl64 l] some = some ofErr := by
  have hw : okW 8 = true := by decide
  obtain ⟨z0, l0, rfl, h0⟩ := len_cons hl
  obtain ⟨z1, l1, rfl, h1⟩ := len_cons h0
  obtain ⟨z2, l2, rfl, h2⟩ := len_cons h1
  obtain ⟨z3, l3, rfl, h3⟩ := len_cons h2
  obtain ⟨z4, l4, rfl, h4⟩ := len_cons h3
  obtain ⟨z5, l5, rfl, h5⟩ := len_cons h4
  obtain ⟨z6, l6, rfl, h6⟩ := len_cons h5
  obtain ⟨z7, l7, rfl, h7⟩ := len_cons h6
  obtain ⟨z8, l8, rfl, h8⟩ := len_cons h7
  obtain ⟨z9, l9, rfl, h9⟩ := len_cons h8
  obtain ⟨z10, l10, rfl, h10⟩ := len_cons h9
  obtain ⟨z11, l11, rfl, h11⟩ := len_cons h10
  obtain ⟨z12, l12, rfl, h12⟩ := len_cons h11
  obtain ⟨z13, l13, rfl, h13⟩ := len_cons h12
  obtain ⟨z14, l14, rfl, h14⟩ := len_cons h13
  obtain ⟨z15, l15, rfl, h15⟩ := len_cons h14
  obtain rfl := len_nil h15
  refine (of30e_8 z0 z1 z2 z3 z4 z5 z6 z7 z8 z9 z10 z11 z12 z13 z14 z15).trans (chainE_no fun hb => hz fun z hm => ?_)
  have := hb (isF 8 z) (by simp only [List.mem_cons, List.not_mem_nil, or_false] at hm ⊢; rcases hm with rfl | rfl | rfl | rfl | rfl | rfl | rfl | rfl | rfl | rfl | rfl | rfl | rfl | rfl | rfl | rfl <;> simp)
  simp only [isF, hw, Bool.true_and, decide_eq_true_eq] at this
  exact this
theorem of31all_8 (l : List (BitVec 64)) (hl : l.length = 16) : ex [(42, widthS), (44, fitsS), (45, vecS)] ann31 Tryd.f31 [.i .i64 8, .sl64 l] some = if okOf 8 l = true then some (.tup [vec (vecF 8 l).1 (vecF 8 l).2, .i .i64 0]) else some ofErr := by
  have hw : okW 8 = true := by decide
  obtain ⟨z0, l0, rfl, h0⟩ := len_cons hl
  obtain ⟨z1, l1, rfl, h1⟩ := len_cons h0
  obtain ⟨z2, l2, rfl, h2⟩ := len_cons h1
  obtain ⟨z3, l3, rfl, h3⟩ := len_cons h2
  obtain ⟨z4, l4, rfl, h4⟩ := len_cons h3
  obtain ⟨z5, l5, rfl, h5⟩ := len_cons h4
  obtain ⟨z6, l6, rfl, h6⟩ := len_cons h5
  obtain ⟨z7, l7, rfl, h7⟩ := len_cons h6
  obtain ⟨z8, l8, rfl, h8⟩ := len_cons h7
  obtain ⟨z9, l9, rfl, h9⟩ := len_cons h8
  obtain ⟨z10, l10, rfl, h10⟩ := len_cons h9
  obtain ⟨z11, l11, rfl, h11⟩ := len_cons h10
  obtain ⟨z12, l12, rfl, h12⟩ := len_cons h11
  obtain ⟨z13, l13, rfl, h13⟩ := len_cons h12
  obtain ⟨z14, l14, rfl, h14⟩ := len_cons h13
  obtain ⟨z15, l15, rfl, h15⟩ := len_cons h14
  obtain rfl := len_nil h15
  refine (of31_8 z0 z1 z2 z3 z4 z5 z6 z7 z8 z9 z10 z11 z12 z13 z14 z15).trans ?_
  by_cases hz : ∀ b ∈ [decide (z0 ≤ maskF 8), decide (z1 ≤ maskF 8), decide (z2 ≤ maskF 8), decide (z3 ≤ maskF 8), decide (z4 ≤ maskF 8), decide (z5 ≤ maskF 8), decide (z6 ≤ maskF 8), decide (z7 ≤ maskF 8), decide (z8 ≤ maskF 8), decide (z9 ≤ maskF 8), decide (z10 ≤ maskF 8), decide (z11 ≤ maskF 8), decide (z12 ≤ maskF 8), decide (z13 ≤ maskF 8), decide (z14 ≤ maskF 8), decide (z15 ≤ maskF 8)], b = true
  · have hk : okOf 8 [z0, z1, z2, z3, z4, z5, z6, z7, z8, z9, z10, z11, z12, z13, z14, z15] = true := by
      simp only [List.mem_cons, List.not_mem_nil, or_false, forall_eq_or_imp, decide_eq_true_eq, forall_eq] at hz
      simp only [okOf, hw, List.all_cons, List.all_nil, Bool.true_and, Bool.and_true, Bool.and_eq_true, decide_eq_true_eq]
      exact ⟨rfl, hz⟩
    rw [if_pos hk]
    have : ∀ {l : List Bool} {e a : Option D}, (∀ b ∈ l, b = true) → chainE l e a = a := by
      intro l
      induction l with
      | nil => intro e a _; rfl
      | cons b l ih =>
        intro e a h
        simp only [chainE]
        rw [h b List.mem_cons_self]
        exact ih fun c hc => h c (List.mem_cons_of_mem _ hc)
    exact this hz
  · have hk : ¬ okOf 8 [z0, z1, z2, z3, z4, z5, z6, z7, z8, z9, z10, z11, z12, z13, z14, z15] = true := fun hk => hz (by
      have := (okOf_cases hk).2.2
      intro b hb
      simp only [List.mem_cons, List.not_mem_nil, or_false] at hb
      rcases hb with rfl | rfl | rfl | rfl | rfl | rfl | rfl | rfl | rfl | rfl | rfl | rfl | rfl | rfl | rfl | rfl <;> exact decide_eq_true (this _ (by simp)))
    rw [if_neg hk]
    exact chainE_no hz
theorem of30bad_16 (l : List (BitVec 64)) (hl : l.length = 8) (hz : ¬ ∀ z ∈ l, z ≤ maskF 16) : ex [(40, isS), (43, setC)] ann30 Tryd.f30 [.i .i64 16, .sl64 l] some = some ofErr := by
  have hw : okW 16 = true := by decide
  obtain ⟨z0, l0, rfl, h0⟩ := len_cons hl
  obtain ⟨z1, l1, rfl, h1⟩ := len_cons h0
  obtain ⟨z2, l2, rfl, h2⟩ := len_cons h1
  obtain ⟨z3, l3, rfl, h3⟩ := len_cons h2
  obtain ⟨z4, l4, rfl, h4⟩ := len_cons h3
  obtain ⟨z5, l5, rfl, h5⟩ := len_cons h4
  obtain ⟨z6, l6, rfl, h6⟩ := len_cons h5
  obtain ⟨z7, l7, rfl, h7⟩ := len_cons h6
  obtain rfl := len_nil h7
  refine (of30e_16 z0 z1 z2 z3 z4 z5 z6 z7).trans (chainE_no fun hb => hz fun z hm => ?_)
  have := hb (isF 16 z) (by simp only [List.mem_cons, List.not_mem_nil, or_false] at hm ⊢; rcases hm with rfl | rfl | rfl | rfl | rfl | rfl | rfl | rfl <;> simp)
  simp only [isF, hw, Bool.true_and, decide_eq_true_eq] at this
  exact this
theorem of31all_16 (l : List (BitVec 64)) (hl : l.length = 8) : ex [(42, widthS), (44, fitsS), (45, vecS)] ann31 Tryd.f31 [.i .i64 16, .sl64 l] some = if okOf 16 l = true then some (.tup [vec (vecF 16 l).1 (vecF 16 l).2, .i .i64 0]) else some ofErr := by
  have hw : okW 16 = true := by decide
  obtain ⟨z0, l0, rfl, h0⟩ := len_cons hl
  obtain ⟨z1, l1, rfl, h1⟩ := len_cons h0
  obtain ⟨z2, l2, rfl, h2⟩ := len_cons h1
  obtain ⟨z3, l3, rfl, h3⟩ := len_cons h2
  obtain ⟨z4, l4, rfl, h4⟩ := len_cons h3
  obtain ⟨z5, l5, rfl, h5⟩ := len_cons h4
  obtain ⟨z6, l6, rfl, h6⟩ := len_cons h5
  obtain ⟨z7, l7, rfl, h7⟩ := len_cons h6
  obtain rfl := len_nil h7
  refine (of31_16 z0 z1 z2 z3 z4 z5 z6 z7).trans ?_
  by_cases hz : ∀ b ∈ [decide (z0 ≤ maskF 16), decide (z1 ≤ maskF 16), decide (z2 ≤ maskF 16), decide (z3 ≤ maskF 16), decide (z4 ≤ maskF 16), decide (z5 ≤ maskF 16), decide (z6 ≤ maskF 16), decide (z7 ≤ maskF 16)], b = true
  · have hk : okOf 16 [z0, z1, z2, z3, z4, z5, z6, z7] = true := by
      simp only [List.mem_cons, List.not_mem_nil, or_false, forall_eq_or_imp, decide_eq_true_eq, forall_eq] at hz
      simp only [okOf, hw, List.all_cons, List.all_nil, Bool.true_and, Bool.and_true, Bool.and_eq_true, decide_eq_true_eq]
      exact ⟨rfl, hz⟩
    rw [if_pos hk]
    have : ∀ {l : List Bool} {e a : Option D}, (∀ b ∈ l, b = true) → chainE l e a = a := by
      intro l
      induction l with
      | nil => intro e a _; rfl
      | cons b l ih =>
        intro e a h
        simp only [chainE]
        rw [h b List.mem_cons_self]
        exact ih fun c hc => h c (List.mem_cons_of_mem _ hc)
    exact this hz
  · have hk : ¬ okOf 16 [z0, z1, z2, z3, z4, z5, z6, z7] = true := fun hk => hz (by
      have := (okOf_cases hk).2.2
      intro b hb
      simp only [List.mem_cons, List.not_mem_nil, or_false] at hb
      rcases hb with rfl | rfl | rfl | rfl | rfl | rfl | rfl | rfl <;> exact decide_eq_true (this _ (by simp)))
    rw [if_neg hk]
    exact chainE_no hz
theorem of30bad_32 (l : List (BitVec 64)) (hl : l.length = 4) (hz : ¬ ∀ z ∈ l, z ≤ maskF 32) : ex [(40, isS), (43, setC)] ann30 Tryd.f30 [.i .i64 32, .sl64 l] some = some ofErr := by
  have hw : okW 32 = true := by decide
  obtain ⟨z0, l0, rfl, h0⟩ := len_cons hl
  obtain ⟨z1, l1, rfl, h1⟩ := len_cons h0
  obtain ⟨z2, l2, rfl, h2⟩ := len_cons h1
  obtain ⟨z3, l3, rfl, h3⟩ := len_cons h2
  obtain rfl := len_nil h3
  refine (of30e_32 z0 z1 z2 z3).trans (chainE_no fun hb => hz fun z hm => ?_)
  have := hb (isF 32 z) (by simp only [List.mem_cons, List.not_mem_nil, or_false] at hm ⊢; rcases hm with rfl | rfl | rfl | rfl <;> simp)
  simp only [isF, hw, Bool.true_and, decide_eq_true_eq] at this
  exact this
theorem of31all_32 (l : List (BitVec 64)) (hl : l.length = 4) : ex [(42, widthS), (44, fitsS), (45, vecS)] ann31 Tryd.f31 [.i .i64 32, .sl64 l] some = if okOf 32 l = true then some (.tup [vec (vecF 32 l).1 (vecF 32 l).2, .i .i64 0]) else some ofErr := by
  have hw : okW 32 = true := by decide
  obtain ⟨z0, l0, rfl, h0⟩ := len_cons hl
  obtain ⟨z1, l1, rfl, h1⟩ := len_cons h0
  obtain ⟨z2, l2, rfl, h2⟩ := len_cons h1
  obtain ⟨z3, l3, rfl, h3⟩ := len_cons h2
  obtain rfl := len_nil h3
  refine (of31_32 z0 z1 z2 z3).trans ?_
  by_cases hz : ∀ b ∈ [decide (z0 ≤ maskF 32), decide (z1 ≤ maskF 32), decide (z2 ≤ maskF 32), decide (z3 ≤ maskF 32)], b = true
  · have hk : okOf 32 [z0, z1, z2, z3] = true := by
      simp only [List.mem_cons, List.not_mem_nil, or_false, forall_eq_or_imp, decide_eq_true_eq, forall_eq] at hz
      simp only [okOf, hw, List.all_cons, List.all_nil, Bool.true_and, Bool.and_true, Bool.and_eq_true, decide_eq_true_eq]
      exact ⟨rfl, hz⟩
    rw [if_pos hk]
    have : ∀ {l : List Bool} {e a : Option D}, (∀ b ∈ l, b = true) → chainE l e a = a := by
      intro l
      induction l with
      | nil => intro e a _; rfl
      | cons b l ih =>
        intro e a h
        simp only [chainE]
        rw [h b List.mem_cons_self]
        exact ih fun c hc => h c (List.mem_cons_of_mem _ hc)
    exact this hz
  · have hk : ¬ okOf 32 [z0, z1, z2, z3] = true := fun hk => hz (by
      have := (okOf_cases hk).2.2
      intro b hb
      simp only [List.mem_cons, List.not_mem_nil, or_false] at hb
      rcases hb with rfl | rfl | rfl | rfl <;> exact decide_eq_true (this _ (by simp)))
    rw [if_neg hk]
    exact chainE_no hz
theorem of30bad_64 (l : List (BitVec 64)) (hl : l.length = 2) (hz : ¬ ∀ z ∈ l, z ≤ maskF 64) : ex [(40, isS), (43, setC)] ann30 Tryd.f30 [.i .i64 64, .sl64 l] some = some ofErr := by
  have hw : okW 64 = true := by decide
  obtain ⟨z0, l0, rfl, h0⟩ := len_cons hl
  obtain ⟨z1, l1, rfl, h1⟩ := len_cons h0
  obtain rfl := len_nil h1
  refine (of30e_64 z0 z1).trans (chainE_no fun hb => hz fun z hm => ?_)
  have := hb (isF 64 z) (by simp only [List.mem_cons, List.not_mem_nil, or_false] at hm ⊢; rcases hm with rfl | rfl <;> simp)
  simp only [isF, hw, Bool.true_and, decide_eq_true_eq] at this
  exact this
theorem of31all_64 (l : List (BitVec 64)) (hl : l.length = 2) : ex [(42, widthS), (44, fitsS), (45, vecS)] ann31 Tryd.f31 [.i .i64 64, .sl64 l] some = if okOf 64 l = true then some (.tup [vec (vecF 64 l).1 (vecF 64 l).2, .i .i64 0]) else some ofErr := by
  have hw : okW 64 = true := by decide
  obtain ⟨z0, l0, rfl, h0⟩ := len_cons hl
  obtain ⟨z1, l1, rfl, h1⟩ := len_cons h0
  obtain rfl := len_nil h1
  refine (of31_64 z0 z1).trans ?_
  by_cases hz : ∀ b ∈ [decide (z0 ≤ maskF 64), decide (z1 ≤ maskF 64)], b = true
  · have hk : okOf 64 [z0, z1] = true := by
      simp only [List.mem_cons, List.not_mem_nil, or_false, forall_eq_or_imp, decide_eq_true_eq, forall_eq] at hz
      simp only [okOf, hw, List.all_cons, List.all_nil, Bool.true_and, Bool.and_true, Bool.and_eq_true, decide_eq_true_eq]
      exact ⟨rfl, hz⟩
    rw [if_pos hk]
    have : ∀ {l : List Bool} {e a : Option D}, (∀ b ∈ l, b = true) → chainE l e a = a := by
      intro l
      induction l with
      | nil => intro e a _; rfl
      | cons b l ih =>
        intro e a h
        simp only [chainE]
        rw [h b List.mem_cons_self]
        exact ih fun c hc => h c (List.mem_cons_of_mem _ hc)
    exact this hz
  · have hk : ¬ okOf 64 [z0, z1] = true := fun hk => hz (by
      have := (okOf_cases hk).2.2
      intro b hb
      simp only [List.mem_cons, List.not_mem_nil, or_false] at hb
      rcases hb with rfl | rfl <;> exact decide_eq_true (this _ (by simp)))
    rw [if_neg hk]
    exact chainE_no hz
open Classical in
theorem Of30 : Snd 30 (two ofF) := by
  intro ds K r hK
  unfold two ofF at hK
  split at hK
  · rename_i b d e hF
    split at hF
    · rename_i w l
      cases hF
      by_cases hw : okW w = true
      · by_cases hl : l.length = (128 / w).toNat
        · by_cases hz : ∀ z ∈ l, z ≤ maskF w
          · have hk : okOf w l = true := by
              simp only [okOf, hw, hl, decide_true, Bool.true_and, List.all_eq_true, decide_eq_true_eq]
              exact hz
            rw [if_pos hk] at hK
            refine execFn_sound (ann := ann30) (TableOK.cons isYes40 (TableOK.cons setC43 TableOK.nil)) mixed Tryd.func30 (by kernel_rfl) 50 |>.join (F := fun ds => if ds = [.i .i64 w, .sl64 l] then some (.tup [vec (vecF w l).1 (vecF w l).2, .i .i64 0]) else none) ?_ _ K r ?_
            · intro ds d h
              split at h
              · rename_i hd
                subst hd; cases h
                rcases okW_cases hw with rfl | rfl | rfl | rfl
                · exact of30ok_8 l hl hz
                · exact of30ok_16 l hl hz
                · exact of30ok_32 l hl hz
                · exact of30ok_64 l hl hz
              · cases h
            · simp only [joined, if_true]; exact hK
          · have hk : ¬ okOf w l = true := fun hk => hz (okOf_cases hk).2.2
            rw [if_neg hk] at hK
            refine execFn_sound (ann := ann30) (TableOK.cons is40 (TableOK.cons setC43 TableOK.nil)) mixed Tryd.func30 (by kernel_rfl) 50 |>.join (F := fun ds => if ds = [.i .i64 w, .sl64 l] then some ofErr else none) ?_ _ K r ?_
            · intro ds d h
              split at h
              · rename_i hd
                subst hd; cases h
                rcases okW_cases hw with rfl | rfl | rfl | rfl
                · exact of30bad_8 l hl hz
                · exact of30bad_16 l hl hz
                · exact of30bad_32 l hl hz
                · exact of30bad_64 l hl hz
              · cases h
            · simp only [joined, if_true]; exact hK
        · have hk : ¬ okOf w l = true := fun hk => hl (okOf_cases hk).2.1
          rw [if_neg hk] at hK
          refine execFn_sound (ann := fun _ => []) (TableOK.cons is40 TableOK.nil) mixed Tryd.func30 (by kernel_rfl) 50 |>.join (F := fun ds => if ds = [.i .i64 w, .sl64 l] then some ofErr else none) ?_ _ K r ?_
          · intro ds d h
            split at h
            · rename_i hd
              subst hd; cases h
              rcases okW_cases hw with rfl | rfl | rfl | rfl
              · exact (of30l_8 l).trans (if_pos (by simp; simp at hl; omega))
              · exact (of30l_16 l).trans (if_pos (by simp; simp at hl; omega))
              · exact (of30l_32 l).trans (if_pos (by simp; simp at hl; omega))
              · exact (of30l_64 l).trans (if_pos (by simp; simp at hl; omega))
            · cases h
          · simp only [joined, if_true]; exact hK
      · have hk : ¬ okOf w l = true := fun hk => hw (okOf_cases hk).1
        rw [if_neg hk] at hK
        refine execFn_sound (ann := fun _ => []) (TableOK.cons isNo40 TableOK.nil) mixed Tryd.func30 (by kernel_rfl) 50 |>.join (F := fun ds => if ds = [.i .i64 w, .sl64 l] then some ofErr else none) ?_ _ K r ?_
        · intro ds d h
          split at h
          · rename_i hd
            subst hd; cases h
            have nf : ex [(40, isNoS)] (fun _ => []) Tryd.f30 [.i .i64 w, .sl64 l] some = if (!isF w 0#64) = true then some ofErr else none := by kernel_rfl
            exact nf.trans (if_pos (by rw [isF_zero]; simpa using hw))
          · cases h
        · simp only [joined, if_true]; exact hK
    · rename_i w
      cases hF
      rw [if_neg (by simp)] at hK
      by_cases hw : okW w = true
      · refine execFn_sound (ann := ann30) (TableOK.cons is40 TableOK.nil) mixed Tryd.func30 (by kernel_rfl) 50 |>.join (F := fun ds => if ds = [.i .i64 w, nilS] then some ofErr else none) ?_ _ K r ?_
        · intro ds d h
          split at h
          · rename_i hd
            subst hd; cases h
            rcases okW_cases hw with rfl | rfl | rfl | rfl
            · exact of30n_8
            · exact of30n_16
            · exact of30n_32
            · exact of30n_64
          · cases h
        · simp only [joined, if_true]; exact hK
      · refine execFn_sound (ann := fun _ => []) (TableOK.cons isNo40 TableOK.nil) mixed Tryd.func30 (by kernel_rfl) 50 |>.join (F := fun ds => if ds = [.i .i64 w, nilS] then some ofErr else none) ?_ _ K r ?_
        · intro ds d h
          split at h
          · rename_i hd
            subst hd; cases h
            have nf : ex [(40, isNoS)] (fun _ => []) Tryd.f30 [.i .i64 w, nilS] some = if (!isF w 0#64) = true then some ofErr else none := by kernel_rfl
            exact nf.trans (if_pos (by rw [isF_zero]; simpa using hw))
          · cases h
        · simp only [joined, if_true]; exact hK
    · cases hF
  · cases hK
end Go.L06

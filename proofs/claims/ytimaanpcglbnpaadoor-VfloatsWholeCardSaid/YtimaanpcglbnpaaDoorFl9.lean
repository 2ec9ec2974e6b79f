/-
  Part of the proof; what its functions and lemmas say stands in the text.
-/
import Derived.Test.YtimaanpcglbnpaaDoorFlB
set_option linter.unusedSimpArgs false
set_option linter.unusedVariables false
/-!
Floats: sums in both orders, signs.
-/
namespace Go.Fl
open Ieee Go.Ev Go.RowKit Go.Wh

theorem sum_comm (d e : Datum) : d.sum e = e.sum d := by
  cases d with
  | nan s t => cases e <;> rfl
  | infinity s =>
    cases e with
    | nan t u => rfl
    | infinity t =>
      unfold Datum.sum
      cases s <;> cases t <;> rfl
    | number t n j => rfl
  | number s m i =>
    cases e with
    | nan t u => rfl
    | infinity t => rfl
    | number t n j =>
      unfold Datum.sum
      simp only [Int.min_comm i j, Bool.and_comm s t, Int.add_comm (signed s m _) _]
theorem product_comm (d e : Datum) : d.product e = e.product d := by
  cases d with
  | nan s t => cases e <;> rfl
  | infinity s =>
    cases e with
    | nan t u => rfl
    | infinity t => unfold Datum.product; simp only [Bool.xor_comm s t]
    | number t n j => unfold Datum.product; simp only [Bool.xor_comm s t]
  | number s m i =>
    cases e with
    | nan t u => rfl
    | infinity t => unfold Datum.product; simp only [Bool.xor_comm s t]
    | number t n j => unfold Datum.product; simp only [Bool.xor_comm s t, Nat.mul_comm m n, Int.add_comm i j]
theorem add_comm (f : Format) (x y : Nat) : f.add x y = f.add y x := by unfold Format.add; rw [sum_comm]
theorem mul_comm (f : Format) (x y : Nat) : f.mul x y = f.mul y x := by unfold Format.mul; rw [product_comm]
theorem read_opp (f : Format) (s : Bool) {r : Nat} (h : r < f.signWeight) : f.read (f.word (!s) r) = (f.read (f.word s r)).opposite := by
  obtain ⟨a1, a2⟩ := word_mod f (!s) h
  obtain ⟨b1, b2⟩ := word_mod f s h
  unfold Format.read
  simp only [a1, a2, b1, b2]
  split
  · rfl
  · split
    · rfl
    · split <;> rfl

/-! ### Signs -/
theorem sg_pow {w : Int} (h : wOK w = true) : ∃ k, k < 64 ∧ sgW w = BitVec.twoPow 64 k ∧ (fmW w).signWeight = 2 ^ k ∧ (BitVec.ofInt 64 (IntKind.i64.wrap (w - 1))).toNat = k := by
  rcases wOK_cases h with rfl | rfl
  · exact ⟨31, by decide, by decide, rfl, by decide⟩
  · exact ⟨63, by decide, by decide, rfl, by decide⟩
theorem xor_clr (a s : BitVec 64) : (a ^^^ s) &&& ~~~s = a &&& ~~~s := by
  apply BitVec.eq_of_getLsbD_eq
  intro i hi
  simp only [BitVec.getLsbD_and, BitVec.getLsbD_xor, BitVec.getLsbD_not, hi, decide_true, Bool.true_and]
  cases a.getLsbD i <;> cases s.getLsbD i <;> rfl
theorem xor_twice (a s : BitVec 64) : (a ^^^ s) ^^^ s = a := by rw [BitVec.xor_assoc, BitVec.xor_self, BitVec.xor_zero]
theorem in_iff {w : Int} {a : BitVec 64} (h : wOK w = true) : inF w a = true ↔ a.toNat < 2 * (fmW w).signWeight := by
  constructor
  · exact in_lt
  · intro hl
    rcases wOK_cases h with rfl | rfl
    · exact in32 hl
    · rfl
theorem hi_zero {k : Nat} {a : BitVec 64} (ha : a.toNat < 2 ^ (k + 1)) {i : Nat} (hi : k < i) : a.getLsbD i = false := Nat.testBit_lt_two_pow (Nat.lt_of_lt_of_le ha (Nat.pow_le_pow_right (by decide) hi))
theorem lt_of_bits {k : Nat} {a : BitVec 64} (h : ∀ i, k < i → i < 64 → a.getLsbD i = false) : a.toNat < 2 ^ (k + 1) := by
  apply Nat.lt_pow_two_of_testBit
  intro i hi
  by_cases h6 : i < 64
  · exact h i (by omega) h6
  · exact BitVec.getLsbD_of_ge a i (by omega)
theorem in_xor {w : Int} {a : BitVec 64} (h : inF w a = true) : inF w (a ^^^ sgW w) = true := by
  have hw : wOK w = true := by unfold inF at h; rw [Bool.and_eq_true] at h; exact h.1
  obtain ⟨k, hk, hs, hf, _⟩ := sg_pow hw
  have hl := in_lt h
  rw [in_iff hw]
  rw [hf] at hl ⊢
  rw [show 2 * 2 ^ k = 2 ^ (k + 1) by rw [Nat.pow_succ]; omega] at hl ⊢
  refine lt_of_bits fun i h1 h2 => ?_
  rw [BitVec.getLsbD_xor, hi_zero hl h1, hs, BitVec.getLsbD_twoPow]
  simp; omega
theorem rg_xor {w : Int} {a : BitVec 64} (h : inF w a = true) : rg (fmW w) (a ^^^ sgW w).toNat = rg (fmW w) a.toNat := by
  rw [← clr_rg h, ← clr_rg (in_xor h), xor_clr]
theorem ng_xor {w : Int} {a : BitVec 64} (h : inF w a = true) : ng (fmW w) (a ^^^ sgW w).toNat = !ng (fmW w) a.toNat := by
  have e1 := and_ng h
  have e2 := and_ng (in_xor h)
  have hw : wOK w = true := by unfold inF at h; rw [Bool.and_eq_true] at h; exact h.1
  obtain ⟨k, hk, hs, hf, _⟩ := sg_pow hw
  rw [hs] at e1 e2 ⊢
  rw [BitVec.and_twoPow] at e1 e2
  have hz : (BitVec.twoPow 64 k == 0#64) = false := by
    have : BitVec.twoPow 64 k ≠ 0#64 := by
      intro h
      have h2 := congrArg (BitVec.getLsbD · k) h
      simp only [BitVec.getLsbD_twoPow, BitVec.getLsbD_zero] at h2
      simp [hk] at h2
    simpa using this
  rw [BitVec.getLsbD_xor, BitVec.getLsbD_twoPow, decide_eq_true hk, decide_eq_true rfl, Bool.true_and, Bool.xor_true] at e2
  cases hb : a.getLsbD k
  · rw [hb] at e1 e2
    simp only [Bool.not_false, if_true, hz, Bool.false_eq_true, if_false] at e1 e2
    have g1 : ng (fmW w) a.toNat = false := by cases hg : ng (fmW w) a.toNat; · rfl
                                               · rw [hg] at e1; simp at e1
    have g2 : ng (fmW w) (a ^^^ BitVec.twoPow 64 k).toNat = true := by cases hg : ng (fmW w) (a ^^^ BitVec.twoPow 64 k).toNat; · rw [hg] at e2; simp at e2
                                                                       · rfl
    rw [g1, g2]; rfl
  · rw [hb] at e1 e2
    simp only [Bool.not_true, if_true, hz, Bool.false_eq_true, if_false] at e1 e2
    have g1 : ng (fmW w) a.toNat = true := by cases hg : ng (fmW w) a.toNat; · rw [hg] at e1; simp at e1
                                              · rfl
    have g2 : ng (fmW w) (a ^^^ BitVec.twoPow 64 k).toNat = false := by cases hg : ng (fmW w) (a ^^^ BitVec.twoPow 64 k).toNat; · rfl
                                                                        · rw [hg] at e2; simp at e2
    rw [g1, g2]; rfl
theorem read_xor {w : Int} {a : BitVec 64} (h : inF w a = true) : (fmW w).read (a ^^^ sgW w).toNat = ((fmW w).read a.toNat).opposite := by
  rw [read_as, ng_xor h, rg_xor h, read_opp _ _ (rg_lt _ _), ← read_as]
theorem sub_add {w : Int} {a b : BitVec 64} (h : inF w b = true) : (fmW w).sub a.toNat b.toNat = (fmW w).add a.toNat (b ^^^ sgW w).toNat := by
  unfold Format.sub Format.add
  rw [read_xor h]
theorem or_and {w : Int} {a b : BitVec 64} (ha : inF w a = true) (hb : inF w b = true) (h : keW w a = keW w b) : (a ||| b = a ∧ a &&& b = b) ∨ (a ||| b = b ∧ a &&& b = a) := by
  have hw : wOK w = true := by unfold inF at ha; rw [Bool.and_eq_true] at ha; exact ha.1
  rcases key_eq (in_lt ha) (in_lt hb) h with g | ⟨g1, g2⟩
  · have e : a = b := BitVec.eq_of_toNat_eq g
    subst e
    left; exact ⟨BitVec.or_self, BitVec.and_self⟩
  · have z : ∀ c : BitVec 64, inF w c = true → rg (fmW w) c.toNat = 0 → c = 0#64 ∨ c = sgW w := by
      intro c hc hr
      have w1 := same_word (in_lt hc)
      rw [hr] at w1
      cases hs : ng (fmW w) c.toNat
      · left
        rw [hs] at w1
        exact BitVec.eq_of_toNat_eq w1.symm
      · right
        rw [hs] at w1
        refine BitVec.eq_of_toNat_eq (w1.symm.trans ?_)
        rcases wOK_cases hw with rfl | rfl <;> decide
    rcases z a ha g1 with rfl | rfl
    · right; exact ⟨BitVec.zero_or, BitVec.zero_and⟩
    · rcases z b hb g2 with rfl | rfl
      · left; exact ⟨BitVec.or_zero, BitVec.and_zero⟩
      · left; exact ⟨BitVec.or_self, BitVec.and_self⟩
end Go.Fl

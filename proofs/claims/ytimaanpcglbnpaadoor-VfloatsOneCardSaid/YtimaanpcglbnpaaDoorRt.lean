/-
  Part of the proof; what its functions and lemmas say stands in the text.
-/
set_option linter.unusedSimpArgs false
set_option linter.unusedVariables false
/-!
Words whose bits are bits of other words: equality by computation.
-/
namespace Go.Rt

inductive BE where
  | c (b : Bool)
  | v (i j : Nat)
  | not (a : BE)
  | and (a b : BE)
  | or (a b : BE)
  | xor (a b : BE)
  deriving DecidableEq

def BE.sem (ρ : Nat → BitVec 64) : BE → Bool
  | .c b => b
  | .v i j => (ρ i).getLsbD j
  | .not a => !(a.sem ρ)
  | .and a b => a.sem ρ && b.sem ρ
  | .or a b => a.sem ρ || b.sem ρ
  | .xor a b => Bool.xor (a.sem ρ) (b.sem ρ)

def BE.mkNot : BE → BE
  | .c b => .c !b
  | .not a => a
  | a => .not a
def BE.mkAnd : BE → BE → BE
  | .c true, b => b
  | .c false, _ => .c false
  | a, .c true => a
  | _, .c false => .c false
  | a, b => .and a b
def BE.mkOr : BE → BE → BE
  | .c false, b => b
  | .c true, _ => .c true
  | a, .c false => a
  | _, .c true => .c true
  | a, b => .or a b
def BE.mkXor : BE → BE → BE
  | .c false, b => b
  | .c true, b => b.mkNot
  | a, .c false => a
  | a, .c true => a.mkNot
  | a, b => .xor a b
theorem BE.mkNot_ok (ρ : Nat → BitVec 64) (a : BE) : a.mkNot.sem ρ = !(a.sem ρ) := by
  cases a <;> simp [mkNot, sem]
theorem BE.mkAnd_ok (ρ : Nat → BitVec 64) (a b : BE) : (a.mkAnd b).sem ρ = (a.sem ρ && b.sem ρ) := by
  unfold mkAnd; split <;> simp [sem]
theorem BE.mkOr_ok (ρ : Nat → BitVec 64) (a b : BE) : (a.mkOr b).sem ρ = (a.sem ρ || b.sem ρ) := by
  unfold mkOr; split <;> simp [sem]
theorem BE.mkXor_ok (ρ : Nat → BitVec 64) (a b : BE) : (a.mkXor b).sem ρ = Bool.xor (a.sem ρ) (b.sem ρ) := by
  unfold mkXor; split <;> simp [sem, mkNot_ok]

inductive RE where
  | atom (i : Nat)
  | lit (n : Nat)
  | shl (a : RE) (k : Nat)
  | shr (a : RE) (k : Nat)
  | not (a : RE)
  | and (a b : RE)
  | or (a b : RE)
  | xor (a b : RE)
  | add (a b : RE)
  | low (a : RE) (k : Nat)

def RE.sem (ρ : Nat → BitVec 64) : RE → BitVec 64
  | .atom i => ρ i
  | .lit n => BitVec.ofNat 64 n
  | .shl a k => a.sem ρ <<< k
  | .shr a k => a.sem ρ >>> k
  | .not a => ~~~ (a.sem ρ)
  | .and a b => a.sem ρ &&& b.sem ρ
  | .or a b => a.sem ρ ||| b.sem ρ
  | .xor a b => a.sem ρ ^^^ b.sem ρ
  | .add a b => a.sem ρ + b.sem ρ
  | .low a k => BitVec.setWidth 64 (BitVec.setWidth k (a.sem ρ))

def RE.bit : RE → Nat → BE
  | .atom i, j => if j < 64 then .v i j else .c false
  | .lit n, j => .c (decide (j < 64) && n.testBit j)
  | .shl a k, j => if j < 64 then if j < k then .c false else a.bit (j - k) else .c false
  | .shr a k, j => a.bit (k + j)
  | .not a, j => if j < 64 then (a.bit j).mkNot else .c false
  | .and a b, j => (a.bit j).mkAnd (b.bit j)
  | .or a b, j => (a.bit j).mkOr (b.bit j)
  | .xor a b, j => (a.bit j).mkXor (b.bit j)
  | .add a b, j => (a.bit j).mkOr (b.bit j)
  | .low a k, j => if j < k then (if j < 64 then a.bit j else .c false) else .c false

/-- All numbers below n. -/
def allN (p : Nat → Bool) : Nat → Bool
  | 0 => true
  | n + 1 => p n && allN p n
theorem allN_ok {p : Nat → Bool} : ∀ {n : Nat}, allN p n = true → ∀ j, j < n → p j = true
  | 0, _, j, h => by cases h
  | n + 1, h, j, hj => by
    simp only [allN, Bool.and_eq_true] at h
    rcases Nat.lt_or_ge j n with hlt | hge
    · exact allN_ok h.2 j hlt
    · have : j = n := by omega
      subst this; exact h.1

def isZ : BE → Bool
  | .c false => true
  | _ => false
def RE.ok : RE → Bool
  | .atom _ => true
  | .lit _ => true
  | .shl a _ => a.ok
  | .shr a _ => a.ok
  | .not a => a.ok
  | .and a b => a.ok && b.ok
  | .or a b => a.ok && b.ok
  | .xor a b => a.ok && b.ok
  | .add a b => a.ok && b.ok && allN (fun j => isZ (a.bit j) || isZ (b.bit j)) 64
  | .low a _ => a.ok

theorem isZ_sem {ρ : Nat → BitVec 64} {a : BE} (h : isZ a = true) : a.sem ρ = false := by
  unfold isZ at h; split at h
  · rfl
  · cases h

theorem add_disjoint {x y : BitVec 64} (h : ∀ j, j < 64 → x.getLsbD j = false ∨ y.getLsbD j = false) : x + y = x ||| y := by
  apply BitVec.add_eq_or_of_and_eq_zero
  apply BitVec.eq_of_getLsbD_eq
  intro j hj
  simp only [BitVec.getLsbD_and, BitVec.getLsbD_zero]
  rcases h j hj with h | h <;> simp [h]

theorem RE.bit_ok (ρ : Nat → BitVec 64) : ∀ (e : RE), e.ok = true → ∀ j, (e.bit j).sem ρ = (e.sem ρ).getLsbD j
  | .atom i, _, j => by
    simp only [bit, sem]
    split
    · rfl
    · rw [BitVec.getLsbD_of_ge _ _ (by omega)]; rfl
  | .lit n, _, j => by simp [bit, sem, BE.sem, BitVec.getLsbD_ofNat]
  | .shl a k, h, j => by
    simp only [bit, sem, BitVec.getLsbD_shiftLeft]
    split
    · split
      · rename_i h2; simp [BE.sem, h2]
      · rename_i h1 h2; rw [bit_ok ρ a h]; simp [h1, h2]
    · rename_i h1; simp [BE.sem, h1]
  | .shr a k, h, j => by simp only [bit, sem, BitVec.getLsbD_ushiftRight]; exact bit_ok ρ a h _
  | .not a, h, j => by
    simp only [bit, sem, BitVec.getLsbD_not]
    split
    · rename_i h1; rw [BE.mkNot_ok, bit_ok ρ a h]; simp [h1]
    · rename_i h1; simp [BE.sem, h1]
  | .and a b, h, j => by
    simp only [RE.ok, Bool.and_eq_true] at h
    simp only [bit, sem, BE.mkAnd_ok, BitVec.getLsbD_and, bit_ok ρ a h.1, bit_ok ρ b h.2]
  | .or a b, h, j => by
    simp only [RE.ok, Bool.and_eq_true] at h
    simp only [bit, sem, BE.mkOr_ok, BitVec.getLsbD_or, bit_ok ρ a h.1, bit_ok ρ b h.2]
  | .xor a b, h, j => by
    simp only [RE.ok, Bool.and_eq_true] at h
    simp only [bit, sem, BE.mkXor_ok, BitVec.getLsbD_xor, bit_ok ρ a h.1, bit_ok ρ b h.2]
  | .add a b, h, j => by
    simp only [RE.ok, Bool.and_eq_true] at h
    have hd : a.sem ρ + b.sem ρ = a.sem ρ ||| b.sem ρ := by
      refine add_disjoint fun i hi => ?_
      have := allN_ok h.2 i hi
      rw [Bool.or_eq_true] at this
      rcases this with h1 | h1
      · left; rw [← bit_ok ρ a h.1.1, isZ_sem h1]
      · right; rw [← bit_ok ρ b h.1.2, isZ_sem h1]
    simp only [bit, sem, hd, BE.mkOr_ok, BitVec.getLsbD_or, bit_ok ρ a h.1.1, bit_ok ρ b h.1.2]
  | .low a k, h, j => by
    simp only [bit, sem, BitVec.getLsbD_setWidth]
    split
    · rename_i h1
      split
      · rename_i h2; rw [bit_ok ρ a h]; simp [h1, h2]
      · rename_i h2; simp [BE.sem, h2]
    · rename_i h1; simp [BE.sem, h1]

def chk (a b : RE) : Bool := a.ok && b.ok && allN (fun j => decide (a.bit j = b.bit j)) 64

theorem chk_ok {a b : RE} (h : chk a b = true) (ρ : Nat → BitVec 64) : a.sem ρ = b.sem ρ := by
  simp only [chk, Bool.and_eq_true] at h
  apply BitVec.eq_of_getLsbD_eq
  intro j hj
  rw [← RE.bit_ok ρ a h.1.1, ← RE.bit_ok ρ b h.1.2, of_decide_eq_true (allN_ok h.2 j hj)]

/-- A word as an expression. -/
class Rf (ρ : Nat → BitVec 64) (x : BitVec 64) where
  e : RE
  ok : e.sem ρ = x

theorem route {ρ : Nat → BitVec 64} {a b : BitVec 64} [ra : Rf ρ a] [rb : Rf ρ b] (h : chk ra.e rb.e = true) : a = b := by
  rw [← ra.ok, ← rb.ok]; exact chk_ok h ρ

def at3 (x y z : BitVec 64) : Nat → BitVec 64
  | 0 => x
  | 1 => y
  | 2 => z
  | _ => 0#64
instance (x y z : BitVec 64) : Rf (at3 x y z) x := ⟨.atom 0, rfl⟩
instance (x y z : BitVec 64) : Rf (at3 x y z) y := ⟨.atom 1, rfl⟩
instance (x y z : BitVec 64) : Rf (at3 x y z) z := ⟨.atom 2, rfl⟩
def atL (l : List (BitVec 64)) : Nat → BitVec 64 := fun i => l.getD i 0#64

section
variable {ρ : Nat → BitVec 64}
instance (n : Nat) : Rf ρ (BitVec.ofNat 64 n) := ⟨.lit n, rfl⟩
instance (a : BitVec 64) (k : Nat) [r : Rf ρ a] : Rf ρ (a <<< k) := ⟨.shl r.e k, by simp only [RE.sem, r.ok]⟩
instance (a : BitVec 64) (k : Nat) [r : Rf ρ a] : Rf ρ (a >>> k) := ⟨.shr r.e k, by simp only [RE.sem, r.ok]⟩
instance (a : BitVec 64) [r : Rf ρ a] : Rf ρ (~~~ a) := ⟨.not r.e, by simp only [RE.sem, r.ok]⟩
instance (a b : BitVec 64) [r : Rf ρ a] [s : Rf ρ b] : Rf ρ (a &&& b) := ⟨.and r.e s.e, by simp only [RE.sem, r.ok, s.ok]⟩
instance (a b : BitVec 64) [r : Rf ρ a] [s : Rf ρ b] : Rf ρ (a ||| b) := ⟨.or r.e s.e, by simp only [RE.sem, r.ok, s.ok]⟩
instance (a b : BitVec 64) [r : Rf ρ a] [s : Rf ρ b] : Rf ρ (a ^^^ b) := ⟨.xor r.e s.e, by simp only [RE.sem, r.ok, s.ok]⟩
instance (a b : BitVec 64) [r : Rf ρ a] [s : Rf ρ b] : Rf ρ (a + b) := ⟨.add r.e s.e, by simp only [RE.sem, r.ok, s.ok]⟩
instance (a : BitVec 64) (k : Nat) [r : Rf ρ a] : Rf ρ (BitVec.setWidth 64 (BitVec.setWidth k a)) := ⟨.low r.e k, by simp only [RE.sem, r.ok]⟩
theorem mul256 (a : BitVec 64) : 256#64 * a = a <<< 8 := by
  apply BitVec.eq_of_toNat_eq
  rw [BitVec.toNat_mul, BitVec.toNat_shiftLeft, Nat.shiftLeft_eq]
  simp [Nat.mul_comm]
instance (a : BitVec 64) [r : Rf ρ a] : Rf ρ (256#64 * a) := ⟨.shl r.e 8, by simp only [RE.sem, r.ok]; exact (mul256 a).symm⟩
end
end Go.Rt

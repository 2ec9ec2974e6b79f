/-
  Part of the proof; what its functions and lemmas say stands in the text.
-/
import Derived.Test.YtnbafdmlfpmfkaaGreatDoorWh1
set_option linter.unusedSimpArgs false
set_option linter.unusedVariables false
namespace Go.Rt
inductive BE where
 | c (b : Bool)
 | v (i j : Nat)
 | not (a : BE)
 | and (a b : BE)
 | or (a b : BE)
 | xor (a b : BE)
 deriving DecidableEq
def BE.sem (ρ : Nat → BitVec 64) : BE → Bool
 | .c b => b
 | .v i j => (ρ i).getLsbD j
 | .not a => !(a.sem ρ)
 | .and a b => a.sem ρ && b.sem ρ
 | .or a b => a.sem ρ || b.sem ρ
 | .xor a b => Bool.xor (a.sem ρ) (b.sem ρ)
def BE.mkNot : BE → BE
 | .c b => .c !b
 | .not a => a
 | a => .not a
def BE.mkAnd : BE → BE → BE
 | .c true, b => b
 | .c false, _ => .c false
 | a, .c true => a
 | _, .c false => .c false
 | a, b => .and a b
def BE.mkOr : BE → BE → BE
 | .c false, b => b
 | .c true, _ => .c true
 | a, .c false => a
 | _, .c true => .c true
 | a, b => .or a b
def BE.mkXor : BE → BE → BE
 | .c false, b => b
 | .c true, b => b.mkNot
 | a, .c false => a
 | a, .c true => a.mkNot
 | a, b => .xor a b
theorem BE.mkNot_ok (ρ : Nat → BitVec 64) (a : BE) : a.mkNot.sem ρ = !(a.sem ρ) := by
 cases a <;> simp [mkNot, sem]
theorem BE.mkAnd_ok (ρ : Nat → BitVec 64) (a b : BE) : (a.mkAnd b).sem ρ = (a.sem ρ && b.sem ρ) := by
 unfold mkAnd; split <;> simp [sem]
theorem BE.mkOr_ok (ρ : Nat → BitVec 64) (a b : BE) : (a.mkOr b).sem ρ = (a.sem ρ || b.sem ρ) := by
 unfold mkOr; split <;> simp [sem]
theorem BE.mkXor_ok (ρ : Nat → BitVec 64) (a b : BE) : (a.mkXor b).sem ρ = Bool.xor (a.sem ρ) (b.sem ρ) := by
 unfold mkXor; split <;> simp [sem, mkNot_ok]
inductive RE where
 | atom (i : Nat)
 | lit (n : Nat)
 | shl (a : RE) (k : Nat)
 | shr (a : RE) (k : Nat)
 | not (a : RE)
 | and (a b : RE)
 | or (a b : RE)
 | xor (a b : RE)
 | add (a b : RE)
 | low (a : RE) (k : Nat)
def RE.sem (ρ : Nat → BitVec 64) : RE → BitVec 64
 | .atom i => ρ i
 | .lit n => BitVec.ofNat 64 n
 | .shl a k => a.sem ρ <<< k
 | .shr a k => a.sem ρ >>> k
 | .not a => ~~~ (a.sem ρ)
 | .and a b => a.sem ρ &&& b.sem ρ
 | .or a b => a.sem ρ ||| b.sem ρ
 | .xor a b => a.sem ρ ^^^ b.sem ρ
 | .add a b => a.sem ρ + b.sem ρ
 | .low a k => BitVec.setWidth 64 (BitVec.setWidth k (a.sem ρ))
def RE.bit : RE → Nat → BE
 | .atom i, j => if j < 64 then .v i j else .c false
 | .lit n, j => .c (decide (j < 64) && n.testBit j)
 | .shl a k, j => if j < 64 then if j < k then .c false else a.bit (j - k) else .c false
 | .shr a k, j => a.bit (k + j)
 | .not a, j => if j < 64 then (a.bit j).mkNot else .c false
 | .and a b, j => (a.bit j).mkAnd (b.bit j)
 | .or a b, j => (a.bit j).mkOr (b.bit j)
 | .xor a b, j => (a.bit j).mkXor (b.bit j)
 | .add a b, j => (a.bit j).mkOr (b.bit j)
 | .low a k, j => if j < k then (if j < 64 then a.bit j else .c false) else .c false
def allN (p : Nat → Bool) : Nat → Bool
 | 0 => true
 | n + 1 => p n && allN p n
theorem allN_ok {p : Nat → Bool} : ∀ {n : Nat}, allN p n = true → ∀ j, j < n → p j = true
 | 0, _, j, h => by cases h
 | n + 1, h, j, hj => by
  simp only [allN, Bool.and_eq_true] at h
  rcases Nat.lt_or_ge j n with hlt | hge
  ·exact allN_ok h.2 j hlt
  ·have : j = n := by omega
   subst this; exact h.1
def isZ : BE → Bool
 | .c false => true
 | _ => false
def RE.ok : RE → Bool
 | .atom _ => true
 | .lit _ => true
 | .shl a _ => a.ok
 | .shr a _ => a.ok
 | .not a => a.ok
 | .and a b => a.ok && b.ok
 | .or a b => a.ok && b.ok
 | .xor a b => a.ok && b.ok
 | .add a b => a.ok && b.ok && allN (fun j => isZ (a.bit j) || isZ (b.bit j)) 64
 | .low a _ => a.ok
theorem isZ_sem {ρ : Nat → BitVec 64} {a : BE} (h : isZ a = true) : a.sem ρ = false := by
 unfold isZ at h; split at h
 ·rfl
 ·cases h
theorem add_disjoint {x y : BitVec 64} (h : ∀ j, j < 64 → x.getLsbD j = false ∨ y.getLsbD j = false) : x + y = x ||| y := by
 apply BitVec.add_eq_or_of_and_eq_zero
 apply BitVec.eq_of_getLsbD_eq
 intro j hj
 simp only [BitVec.getLsbD_and, BitVec.getLsbD_zero]
 rcases h j hj with h | h <;> simp [h]
theorem RE.bit_ok (ρ : Nat → BitVec 64) : ∀ (e : RE), e.ok = true → ∀ j, (e.bit j).sem ρ = (e.sem ρ).getLsbD j
 | .atom i, _, j => by
  simp only [bit, sem]
  split
  ·rfl
  ·rw [BitVec.getLsbD_of_ge _ _ (by omega)]; rfl
 | .lit n, _, j => by simp [bit, sem, BE.sem, BitVec.getLsbD_ofNat]
 | .shl a k, h, j => by
  simp only [bit, sem, BitVec.getLsbD_shiftLeft]
  split
  ·split
   ·rename_i h2; simp [BE.sem, h2]
   ·rename_i h1 h2; rw [bit_ok ρ a h]; simp [h1, h2]
  ·rename_i h1; simp [BE.sem, h1]
 | .shr a k, h, j => by simp only [bit, sem, BitVec.getLsbD_ushiftRight]; exact bit_ok ρ a h _
 | .not a, h, j => by
  simp only [bit, sem, BitVec.getLsbD_not]
  split
  ·rename_i h1; rw [BE.mkNot_ok, bit_ok ρ a h]; simp [h1]
  ·rename_i h1; simp [BE.sem, h1]
 | .and a b, h, j => by
  simp only [RE.ok, Bool.and_eq_true] at h
  simp only [bit, sem, BE.mkAnd_ok, BitVec.getLsbD_and, bit_ok ρ a h.1, bit_ok ρ b h.2]
 | .or a b, h, j => by
  simp only [RE.ok, Bool.and_eq_true] at h
  simp only [bit, sem, BE.mkOr_ok, BitVec.getLsbD_or, bit_ok ρ a h.1, bit_ok ρ b h.2]
 | .xor a b, h, j => by
  simp only [RE.ok, Bool.and_eq_true] at h
  simp only [bit, sem, BE.mkXor_ok, BitVec.getLsbD_xor, bit_ok ρ a h.1, bit_ok ρ b h.2]
 | .add a b, h, j => by
  simp only [RE.ok, Bool.and_eq_true] at h
  have hd : a.sem ρ + b.sem ρ = a.sem ρ ||| b.sem ρ := by
   refine add_disjoint fun i hi => ?_
   have := allN_ok h.2 i hi
   rw [Bool.or_eq_true] at this
   rcases this with h1 | h1
   ·left; rw [← bit_ok ρ a h.1.1, isZ_sem h1]
   ·right; rw [← bit_ok ρ b h.1.2, isZ_sem h1]
  simp only [bit, sem, hd, BE.mkOr_ok, BitVec.getLsbD_or, bit_ok ρ a h.1.1, bit_ok ρ b h.1.2]
 | .low a k, h, j => by
  simp only [bit, sem, BitVec.getLsbD_setWidth]
  split
  ·rename_i h1
   split
   ·rename_i h2; rw [bit_ok ρ a h]; simp [h1, h2]
   ·rename_i h2; simp [BE.sem, h2]
  ·rename_i h1; simp [BE.sem, h1]
def chk (a b : RE) : Bool := a.ok && b.ok && allN (fun j => decide (a.bit j = b.bit j)) 64
theorem chk_ok {a b : RE} (h : chk a b = true) (ρ : Nat → BitVec 64) : a.sem ρ = b.sem ρ := by
 simp only [chk, Bool.and_eq_true] at h
 apply BitVec.eq_of_getLsbD_eq
 intro j hj
 rw [← RE.bit_ok ρ a h.1.1, ← RE.bit_ok ρ b h.1.2, of_decide_eq_true (allN_ok h.2 j hj)]
class Rf (ρ : Nat → BitVec 64) (x : BitVec 64) where
 e : RE
 ok : e.sem ρ = x
theorem route {ρ : Nat → BitVec 64} {a b : BitVec 64} [ra : Rf ρ a] [rb : Rf ρ b] (h : chk ra.e rb.e = true) : a = b := by
 rw [← ra.ok, ← rb.ok]; exact chk_ok h ρ
def at3 (x y z : BitVec 64) : Nat → BitVec 64
 | 0 => x
 | 1 => y
 | 2 => z
 | _ => 0#64
instance (x y z : BitVec 64) : Rf (at3 x y z) x := ⟨.atom 0, rfl⟩
instance (x y z : BitVec 64) : Rf (at3 x y z) y := ⟨.atom 1, rfl⟩
instance (x y z : BitVec 64) : Rf (at3 x y z) z := ⟨.atom 2, rfl⟩
section
variable {ρ : Nat → BitVec 64}
instance (n : Nat) : Rf ρ (BitVec.ofNat 64 n) := ⟨.lit n, rfl⟩
instance (a : BitVec 64) (k : Nat) [r : Rf ρ a] : Rf ρ (a <<< k) := ⟨.shl r.e k, by simp only [RE.sem, r.ok]⟩
instance (a : BitVec 64) (k : Nat) [r : Rf ρ a] : Rf ρ (a >>> k) := ⟨.shr r.e k, by simp only [RE.sem, r.ok]⟩
instance (a : BitVec 64) [r : Rf ρ a] : Rf ρ (~~~ a) := ⟨.not r.e, by simp only [RE.sem, r.ok]⟩
instance (a b : BitVec 64) [r : Rf ρ a] [s : Rf ρ b] : Rf ρ (a &&& b) := ⟨.and r.e s.e, by simp only [RE.sem, r.ok, s.ok]⟩
instance (a b : BitVec 64) [r : Rf ρ a] [s : Rf ρ b] : Rf ρ (a ||| b) := ⟨.or r.e s.e, by simp only [RE.sem, r.ok, s.ok]⟩
instance (a b : BitVec 64) [r : Rf ρ a] [s : Rf ρ b] : Rf ρ (a ^^^ b) := ⟨.xor r.e s.e, by simp only [RE.sem, r.ok, s.ok]⟩
instance (a b : BitVec 64) [r : Rf ρ a] [s : Rf ρ b] : Rf ρ (a + b) := ⟨.add r.e s.e, by simp only [RE.sem, r.ok, s.ok]⟩
instance (a : BitVec 64) (k : Nat) [r : Rf ρ a] : Rf ρ (BitVec.setWidth 64 (BitVec.setWidth k a)) := ⟨.low r.e k, by simp only [RE.sem, r.ok]⟩
theorem mul256 (a : BitVec 64) : 256#64 * a = a <<< 8 := by
 apply BitVec.eq_of_toNat_eq
 rw [BitVec.toNat_mul, BitVec.toNat_shiftLeft, Nat.shiftLeft_eq]
 simp [Nat.mul_comm]
instance (a : BitVec 64) [r : Rf ρ a] : Rf ρ (256#64 * a) := ⟨.shl r.e 8, by simp only [RE.sem, r.ok]; exact (mul256 a).symm⟩
end
end Go.Rt
namespace Go.Wh
open Go.Ev Go.RowKit
theorem maskF8 : maskF 8 = 255#64 := by decide
theorem maskF16 : maskF 16 = 65535#64 := by decide
theorem maskF32 : maskF 32 = 4294967295#64 := by decide
theorem maskF64 : maskF 64 = 18446744073709551615#64 := by decide
theorem sOfU64 (x : BitVec 64) : sOfU .i64 x = x.toInt := by
 unfold sOfU
 rw [if_neg (by decide)]
 simp [IntKind.bits]
theorem wrap64 (n : Int) : IntKind.i64.wrap n = if (n % 18446744073709551616) ≥ 9223372036854775808 then n % 18446744073709551616 - 18446744073709551616 else n % 18446744073709551616 := by
 simp [IntKind.wrap, IntKind.signed, IntKind.bits]
theorem wrap_in {n : Int} (h1 : -9223372036854775808 ≤ n) (h2 : n < 9223372036854775808) : IntKind.i64.wrap n = n := by
 rw [wrap64]
 split <;> omega
theorem toInt64 (x : BitVec 64) : x.toInt = if x.toNat < 9223372036854775808 then (x.toNat : Int) else (x.toNat : Int) - 18446744073709551616 := by
 rw [BitVec.toInt_eq_toNat_cond]
 have := x.isLt
 split <;> split <;> omega
def pw (w : Int) : Int := if w = 8 then 256 else if w = 16 then 65536 else if w = 32 then 4294967296 else 18446744073709551616
theorem pw8 : pw 8 = 256 := rfl
theorem pw16 : pw 16 = 65536 := rfl
theorem pw32 : pw 32 = 4294967296 := rfl
theorem pw64 : pw 64 = 18446744073709551616 := rfl
def sgnF (w : Int) (a : BitVec 64) : Int := if 2 * (a.toNat : Int) < pw w then (a.toNat : Int) else (a.toNat : Int) - pw w
def fitF (w : Int) (a : BitVec 64) : Bool := okW w && decide (a ≤ maskF w)
theorem fitF_nat {w : Int} {a : BitVec 64} (h : fitF w a = true) : okW w = true ∧ (a.toNat : Int) < pw w := by
 simp only [fitF, Bool.and_eq_true, decide_eq_true_eq] at h
 obtain ⟨hw, ha⟩ := h
 refine ⟨hw, ?_⟩
 rw [BitVec.le_def] at ha
 rcases okW_cases hw with rfl | rfl | rfl | rfl
 ·rw [maskF8] at ha; rw [pw8]; simp at ha; omega
 ·rw [maskF16] at ha; rw [pw16]; simp at ha; omega
 ·rw [maskF32] at ha; rw [pw32]; simp at ha; omega
 ·rw [pw64]; have := a.isLt; omega
theorem worth8 {a : BitVec 64} (h : (a.toNat : Int) < 256) : sOfU .i64 (a <<< 56) / 2 ^ 56 = sgnF 8 a := by
 rw [sOfU64, toInt64, BitVec.toNat_shiftLeft, Nat.shiftLeft_eq]
 unfold sgnF
 rw [pw8]
 have e : a.toNat * 2 ^ 56 % 2 ^ 64 = a.toNat * 2 ^ 56 := Nat.mod_eq_of_lt (by omega)
 rw [e]
 split <;> split <;> omega
theorem worth16 {a : BitVec 64} (h : (a.toNat : Int) < 65536) : sOfU .i64 (a <<< 48) / 2 ^ 48 = sgnF 16 a := by
 rw [sOfU64, toInt64, BitVec.toNat_shiftLeft, Nat.shiftLeft_eq]
 unfold sgnF
 rw [pw16]
 have e : a.toNat * 2 ^ 48 % 2 ^ 64 = a.toNat * 2 ^ 48 := Nat.mod_eq_of_lt (by omega)
 rw [e]
 split <;> split <;> omega
theorem worth32 {a : BitVec 64} (h : (a.toNat : Int) < 4294967296) : sOfU .i64 (a <<< 32) / 2 ^ 32 = sgnF 32 a := by
 rw [sOfU64, toInt64, BitVec.toNat_shiftLeft, Nat.shiftLeft_eq]
 unfold sgnF
 rw [pw32]
 have e : a.toNat * 2 ^ 32 % 2 ^ 64 = a.toNat * 2 ^ 32 := Nat.mod_eq_of_lt (by omega)
 rw [e]
 split <;> split <;> omega
theorem worth64 (a : BitVec 64) : sOfU .i64 (a <<< 0) / 2 ^ 0 = sgnF 64 a := by
 rw [sOfU64, toInt64, BitVec.toNat_shiftLeft, Nat.shiftLeft_eq]
 unfold sgnF
 rw [pw64]
 have := a.isLt
 have e : a.toNat * 2 ^ 0 % 2 ^ 64 = a.toNat := by omega
 rw [e]
 split <;> split <;> omega
theorem mask_nat {w : Int} (h : okW w = true) : ((maskF w).toNat : Int) = pw w - 1 := by
 rcases okW_cases h with rfl | rfl | rfl | rfl <;> decide
theorem pw_even {w : Int} (h : okW w = true) : ∃ k : Int, pw w = 2 * k ∧ 128 ≤ k ∧ k ≤ 9223372036854775808 := by
 rcases okW_cases h with rfl | rfl | rfl | rfl
 ·exact ⟨128, rfl, by omega, by omega⟩
 ·exact ⟨32768, rfl, by omega, by omega⟩
 ·exact ⟨2147483648, rfl, by omega, by omega⟩
 ·exact ⟨9223372036854775808, rfl, by omega, by omega⟩
end Go.Wh
namespace Go.Wh
open Go.Ev Go.RowKit
def thanT (o : BitVec 8) (w : Int) (a b : BitVec 64) : Option D :=
 if (o == 32#8) = true then some (D.tup [D.bool (a == b), D.i IntKind.i64 0])
 else if (o == 33#8) = true then some (D.tup [D.bool !a == b, D.i IntKind.i64 0])
 else if (o == 34#8) = true then some (D.tup [D.bool (decide (a < b)), D.i IntKind.i64 0])
 else if (o == 35#8) = true then some (D.tup [D.bool (decide (sgnF w a < sgnF w b)), D.i IntKind.i64 0])
 else if (o == 36#8) = true then some (D.tup [D.bool (decide (b < a)), D.i IntKind.i64 0])
 else if (o == 37#8) = true then some (D.tup [D.bool (decide (sgnF w b < sgnF w a)), D.i IntKind.i64 0])
 else if (o == 38#8) = true then some (D.tup [D.bool (decide (a ≤ b)), D.i IntKind.i64 0])
 else if (o == 39#8) = true then some (D.tup [D.bool (decide (sgnF w a ≤ sgnF w b)), D.i IntKind.i64 0])
 else if (o == 40#8) = true then some (D.tup [D.bool (decide (b ≤ a)), D.i IntKind.i64 0])
 else if (o == 41#8) = true then some (D.tup [D.bool (decide (sgnF w b ≤ sgnF w a)), D.i IntKind.i64 0])
 else some (D.tup [D.bool false, D.i IntKind.i64 2])
def thanO (o : BitVec 8) : Bool := o == 32#8 || o == 33#8 || o == 34#8 || o == 35#8 || o == 36#8 || o == 37#8 || o == 38#8 || o == 39#8 || o == 40#8 || o == 41#8
def thanB (o : BitVec 8) (w : Int) (a b : BitVec 64) : Bool :=
 if (o == 32#8) = true then a == b
 else if (o == 33#8) = true then !(a == b)
 else if (o == 34#8) = true then decide (a < b)
 else if (o == 35#8) = true then decide (sgnF w a < sgnF w b)
 else if (o == 36#8) = true then decide (b < a)
 else if (o == 37#8) = true then decide (sgnF w b < sgnF w a)
 else if (o == 38#8) = true then decide (a ≤ b)
 else if (o == 39#8) = true then decide (sgnF w a ≤ sgnF w b)
 else if (o == 40#8) = true then decide (b ≤ a)
 else if (o == 41#8) = true then decide (sgnF w b ≤ sgnF w a)
 else false
theorem thanT_eq (o : BitVec 8) (w : Int) (a b : BitVec 64) : thanT o w a b = some (.tup [.bool (thanB o w a b), .i .i64 (errF (thanO o))]) := by
 unfold thanT thanB thanO
 generalize (o == 32#8) = c0
 generalize (o == 33#8) = c1
 generalize (o == 34#8) = c2
 generalize (o == 35#8) = c3
 generalize (o == 36#8) = c4
 generalize (o == 37#8) = c5
 generalize (o == 38#8) = c6
 generalize (o == 39#8) = c7
 generalize (o == 40#8) = c8
 generalize (o == 41#8) = c9
 cases c0
 ·cases c1
  ·cases c2
   ·cases c3
    ·cases c4
     ·cases c5
      ·cases c6
       ·cases c7
        ·cases c8
         ·cases c9 <;> rfl
         ·rfl
        ·rfl
       ·rfl
      ·rfl
     ·rfl
    ·rfl
   ·rfl
  ·rfl
 ·rfl
def thanV (o : BitVec 8) (w : Int) (a b : BitVec 64) : D := .tup [.bool (mayF w [a, b] && thanB o w a b), .i .i64 (errF (mayF w [a, b] && thanO o))]
theorem may_fit {w : Int} {a b : BitVec 64} (h : mayF w [a, b] = true) : fitF w a = true ∧ fitF w b = true := by
 simp only [mayF, List.all_cons, List.all_nil, Bool.and_true, Bool.and_eq_true] at h
 simp only [fitF, h, Bool.and_self, and_self]
theorem may_fit1 {w : Int} {a : BitVec 64} (h : mayF w [a] = true) : fitF w a = true := by
 simp only [mayF, List.all_cons, List.all_nil, Bool.and_true] at h
 exact h
end Go.Wh
namespace Go.Wh
open Go.Ev Go.RowKit
theorem and_fit {t : Int} (h : okW t = true) {z : BitVec 64} (hz : z ≤ maskF t) : z &&& maskF t = z := by
 have e := fit_eq h z
 rw [decide_eq_true hz, beq_iff_eq] at e
 apply BitVec.eq_of_getLsbD_eq
 intro j hj
 have h1 := congrArg (fun y => BitVec.getLsbD y j) e
 simp only [BitVec.getLsbD_and, BitVec.getLsbD_not, hj, decide_true, Bool.true_and, BitVec.getLsbD_zero] at h1
 simp only [BitVec.getLsbD_and]
 cases h2 : z.getLsbD j
 ·rfl
 ·rw [h2, Bool.true_and] at h1
  simpa using h1
theorem ofInt_nat {v : Int} (h0 : 0 ≤ v) (h1 : v < 18446744073709551616) : ((BitVec.ofInt 64 v).toNat : Int) = v := by
 rw [BitVec.toNat_ofInt]
 have e : (((2 ^ 64 : Nat)) : Int) = 18446744073709551616 := by decide
 rw [e]
 omega
theorem ofInt_fit {t : Int} (h : okW t = true) {v : Int} (h0 : 0 ≤ v) (h1 : v < pw t) : BitVec.ofInt 64 v &&& maskF t = BitVec.ofInt 64 v := by
 refine and_fit h ?_
 have hm := mask_nat h
 obtain ⟨k, hk, k1, k2⟩ := pw_even h
 have := ofInt_nat h0 (by omega)
 rw [BitVec.le_def]
 omega
theorem mask_int {t : Int} (h : okW t = true) (ht : t < 64) : sOfU .i64 (maskF t) = pw t - 1 := by
 rcases okW_cases h with rfl | rfl | rfl | rfl
 ·decide
 ·decide
 ·decide
 ·omega
def okE (f t : Int) (a : BitVec 64) : Bool := fitF f a && okW t && !decide (t < f)
def extF (f t : Int) (s : Bool) (a : BitVec 64) : BitVec 64 := if s = true then BitVec.ofInt 64 (sgnF f a) &&& maskF t else a
def extV (f t : Int) (s : Bool) (a : BitVec 64) : D := .tup [.u64 (ifF (okE f t a) (extF f t s a)), .i .i64 (errF (okE f t a))]
def argErr : Option D := some (.tup [.u64 0#64, .i .i64 2])
theorem ext_end (f t : Int) (s : Bool) (a : BitVec 64) {x : Option D} (h : okE f t a = true → x = some (.tup [.u64 (extF f t s a), .i .i64 0])) :
  (if (!mayF f [a]) = false then if (!okW t) = false then if decide (t < f) = true then argErr else x else argErr else argErr) = some (extV f t s a) := by
 have e : mayF f [a] = fitF f a := by simp [mayF, fitF]
 rw [e]
 unfold extV
 unfold okE at h ⊢
 cases h1 : fitF f a
 ·rfl
 ·cases h2 : okW t
  ·rfl
  ·cases h3 : decide (t < f)
   ·rw [h1, h2, h3] at h
    exact h rfl
   ·rfl
def okN (f t : Int) (a : BitVec 64) : Bool := fitF f a && okW t && decide (t < f)
def narF (f t : Int) (s : Bool) (a : BitVec 64) : BitVec 64 := if s = true then BitVec.ofInt 64 (min (max (sgnF f a) (-(pw t / 2))) (pw t / 2 - 1)) &&& maskF t else BitVec.ofInt 64 (min (max (sgnF f a) 0) (pw t - 1))
def narV (f t : Int) (s : Bool) (a : BitVec 64) : D := .tup [.u64 (ifF (okN f t a) (narF f t s a)), .i .i64 (errF (okN f t a))]
theorem nar_end (f t : Int) (s : Bool) (a : BitVec 64) {x : Option D} (h : okN f t a = true → x = some (.tup [.u64 (narF f t s a), .i .i64 0])) :
  (if (!mayF f [a]) = false then if (!okW t) = false then if decide (f ≤ t) = true then argErr else x else argErr else argErr) = some (narV f t s a) := by
 have e : mayF f [a] = fitF f a := by simp [mayF, fitF]
 have e2 : decide (f ≤ t) = !decide (t < f) := by rw [Bool.eq_iff_iff]; simp
 rw [e, e2]
 unfold narV
 unfold okN at h ⊢
 cases h1 : fitF f a
 ·rfl
 ·cases h2 : okW t
  ·rfl
  ·cases h3 : decide (t < f)
   ·rfl
   ·rw [h1, h2, h3] at h
    exact h rfl
theorem lt64 {f t : Int} {a : BitVec 64} (h : okN f t a = true) : okW t = true ∧ t < 64 ∧ fitF f a = true := by
 simp only [okN, Bool.and_eq_true, decide_eq_true_eq] at h
 obtain ⟨⟨h1, h2⟩, h3⟩ := h
 refine ⟨h2, ?_, h1⟩
 rcases okW_cases (fitF_nat h1).1 with rfl | rfl | rfl | rfl <;> omega
def heldF (t n l h : Int) : BitVec 64 := BitVec.ofInt 64 (min (max n l) h) &&& maskF t
theorem held_lt (n l h : Int) : (if h < (if n < l then l else n) then h else (if n < l then l else n)) = min (max n l) h := by
 split <;> split <;> omega
theorem nar_prog {f t : Int} {s : Bool} {a : BitVec 64} (h : okN f t a = true) : (if (!s) = true then some (D.tup [.u64 (heldF t (sgnF f a) 0 (sOfU .i64 (maskF t))), .i .i64 0]) else some (D.tup [.u64 (heldF t (sgnF f a) (-(pw t / 2)) (pw t / 2 - 1)), .i .i64 0])) = some (D.tup [.u64 (narF f t s a), .i .i64 0]) := by
 obtain ⟨h1, h2, h3⟩ := lt64 h
 obtain ⟨k, hk, k1, k2⟩ := pw_even h1
 cases s
 ·simp only [Bool.not_false, if_true, narF, heldF, Bool.false_eq_true, if_false]
  rw [mask_int h1 h2, ofInt_fit h1 (by omega) (by omega)]
 ·rfl
end Go.Wh
namespace Go.Wh
open Go.Ev Go.RowKit
theorem and_nat {t : Int} (h : okW t = true) (x : BitVec 64) : ((x &&& maskF t).toNat : Int) = (x.toNat : Int) % pw t := by
 have key : ∀ (k : Nat), (maskF t).toNat = 2 ^ k - 1 → pw t = ((2 ^ k : Nat) : Int) → ((x &&& maskF t).toNat : Int) = (x.toNat : Int) % pw t := fun k h1 h2 => by
  rw [BitVec.toNat_and, h1, Nat.and_two_pow_sub_one_eq_mod, h2]
  rfl
 rcases okW_cases h with rfl | rfl | rfl | rfl
 ·exact key 8 (by decide) (by decide)
 ·exact key 16 (by decide) (by decide)
 ·exact key 32 (by decide) (by decide)
 ·exact key 64 (by decide) (by decide)
theorem and_le (x m : BitVec 64) : x &&& m ≤ m := by
 rw [BitVec.le_def, BitVec.toNat_and]
 exact Nat.and_le_right
theorem fit_and {t : Int} (h : okW t = true) (x : BitVec 64) : fitF t (x &&& maskF t) = true := by
 simp only [fitF, h, Bool.true_and, decide_eq_true_eq]
 exact and_le _ _
theorem num_nat {t : Int} (h : okW t = true) (n : Int) : ((BitVec.ofInt 64 n &&& maskF t).toNat : Int) = n % pw t := by
 rw [and_nat h, BitVec.toNat_ofInt]
 have e : (((2 ^ 64 : Nat)) : Int) = 18446744073709551616 := by decide
 rw [e]
 have e2 : ((n % 18446744073709551616).toNat : Int) = n % 18446744073709551616 := by omega
 rw [e2]
 rcases okW_cases h with rfl | rfl | rfl | rfl
 ·rw [pw8]; omega
 ·rw [pw16]; omega
 ·rw [pw32]; omega
 ·rw [pw64]; omega
theorem sgn_num {t n : Int} (h : okW t = true) (h0 : -(pw t / 2) ≤ n) (h1 : n < pw t / 2) : sgnF t (BitVec.ofInt 64 n &&& maskF t) = n := by
 unfold sgnF
 rw [num_nat h]
 rcases okW_cases h with rfl | rfl | rfl | rfl
 ·rw [pw8] at *; split <;> omega
 ·rw [pw16] at *; split <;> omega
 ·rw [pw32] at *; split <;> omega
 ·rw [pw64] at *; split <;> omega
theorem eq_nat {x y : BitVec 64} (h : (x.toNat : Int) = (y.toNat : Int)) : x = y := BitVec.eq_of_toNat_eq (by omega)
theorem num_sgn {t : Int} {a : BitVec 64} (h : fitF t a = true) : BitVec.ofInt 64 (sgnF t a) &&& maskF t = a := by
 obtain ⟨hw, ha⟩ := fitF_nat h
 refine eq_nat ?_
 rw [num_nat hw]
 unfold sgnF
 obtain ⟨k, hk, k1, k2⟩ := pw_even hw
 split
 ·rw [Int.emod_eq_of_lt (by omega) ha]
 ·rw [Int.sub_emod_right, Int.emod_eq_of_lt (by omega) ha]
theorem sgn_range {t : Int} {a : BitVec 64} (h : fitF t a = true) : -(pw t / 2) ≤ sgnF t a ∧ sgnF t a < pw t / 2 := by
 obtain ⟨hw, ha⟩ := fitF_nat h
 obtain ⟨k, hk, k1, k2⟩ := pw_even hw
 unfold sgnF
 split <;> omega
theorem fit_of_nat {t : Int} {a : BitVec 64} (h : okW t = true) (ha : (a.toNat : Int) < pw t) : fitF t a = true := by
 have hm := mask_nat h
 simp only [fitF, h, Bool.true_and, decide_eq_true_eq, BitVec.le_def]
 omega
end Go.Wh

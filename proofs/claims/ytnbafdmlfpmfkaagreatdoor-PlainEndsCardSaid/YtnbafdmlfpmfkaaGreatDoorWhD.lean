/-
  Part of the proof; what its functions and lemmas say stands in the text.
-/
import Derived.Test.YtnbafdmlfpmfkaaGreatDoorWhC
import Derived.Lib.TrailingZeros
set_option linter.unusedSimpArgs false
set_option linter.unusedVariables false
namespace Go.Wh
open Go.Ev Go.RowKit
theorem avg_nat (a b : BitVec 64) : (avgV a b).toNat = (a.toNat + b.toNat + 1) / 2 := by
 have h := and_xor_nat a.toNat b.toNat
 have al := a.isLt
 have bl := b.isLt
 have x1 := Nat.div_add_mod (a.toNat ^^^ b.toNat) 2
 have x2 := Nat.mod_lt (a.toNat ^^^ b.toNat) (by decide : 2 > 0)
 unfold avgV
 have z1 : (1#64).toNat = 1 := rfl
 have xl : a.toNat ^^^ b.toNat < 2 ^ 64 := Nat.xor_lt_two_pow al bl
 simp only [BitVec.toNat_add, BitVec.toNat_and, BitVec.toNat_xor, BitVec.toNat_ushiftRight, Nat.shiftRight_eq_div_pow, z1, Nat.and_one_is_mod, Nat.pow_one]
 generalize a.toNat &&& b.toNat = C at *
 generalize a.toNat ^^^ b.toNat = X at *
 omega
end Go.Wh
namespace Go.Wh
open Go.Ev Go.RowKit
def lenF (n : Nat) : Nat := if n = 0 then 0 else n.log2 + 1
theorem len_iff (n k : Nat) : lenF n ≤ k ↔ n < 2 ^ k := by
 unfold lenF
 by_cases h : n = 0
 ·subst h
  have := Nat.two_pow_pos k
  exact ⟨fun _ => this, fun _ => Nat.zero_le _⟩
 ·rw [if_neg h, ← Nat.log2_lt h]
  omega
theorem len_shift {n s : Nat} (h : 2 ^ s ≤ n) : lenF n = s + lenF (n / 2 ^ s) := by
 have key : ∀ k, lenF n ≤ k + s ↔ lenF (n / 2 ^ s) ≤ k := fun k => by
  rw [len_iff, len_iff, Nat.div_lt_iff_lt_mul (Nat.two_pow_pos s), ← Nat.pow_add]
 have h1 : ¬ lenF n ≤ s := fun h2 => by have := (len_iff n s).1 h2; omega
 have k1 := (key (lenF (n / 2 ^ s))).2 (Nat.le_refl _)
 have k2 := (key (lenF n - s)).1 (by omega)
 omega
def lenA : Array UInt8 := ((List.append [0, 1, 2, 2, 3, 3, 3, 3, 4, 4, 4, 4, 4, 4, 4, 4, 5, 5, 5, 5, 5, 5, 5, 5, 5, 5, 5, 5, 5, 5, 5, 5, 6, 6, 6, 6, 6, 6, 6, 6, 6, 6, 6, 6, 6, 6, 6, 6, 6, 6, 6, 6, 6, 6, 6, 6, 6, 6, 6, 6, 6, 6, 6, 6] [7, 7, 7, 7, 7, 7, 7, 7, 7, 7, 7, 7, 7, 7, 7, 7, 7, 7, 7, 7, 7, 7, 7, 7, 7, 7, 7, 7, 7, 7, 7, 7, 7, 7, 7, 7, 7, 7, 7, 7, 7, 7, 7, 7, 7, 7, 7, 7, 7, 7, 7, 7, 7, 7, 7, 7, 7, 7, 7, 7, 7, 7, 7, 7]).append (List.append [8, 8, 8, 8, 8, 8, 8, 8, 8, 8, 8, 8, 8, 8, 8, 8, 8, 8, 8, 8, 8, 8, 8, 8, 8, 8, 8, 8, 8, 8, 8, 8, 8, 8, 8, 8, 8, 8, 8, 8, 8, 8, 8, 8, 8, 8, 8, 8, 8, 8, 8, 8, 8, 8, 8, 8, 8, 8, 8, 8, 8, 8, 8, 8] [8, 8, 8, 8, 8, 8, 8, 8, 8, 8, 8, 8, 8, 8, 8, 8, 8, 8, 8, 8, 8, 8, 8, 8, 8, 8, 8, 8, 8, 8, 8, 8, 8, 8, 8, 8, 8, 8, 8, 8, 8, 8, 8, 8, 8, 8, 8, 8, 8, 8, 8, 8, 8, 8, 8, 8, 8, 8, 8, 8, 8, 8, 8, 8])).toArray
def lenC (c : BitVec 8) : BitVec 8 := (lenA.getD c.toNat 0).toBitVec
theorem lenC_eq (c : BitVec 8) : (lenC c).toNat = lenF c.toNat := by
 revert c; decide +kernel
def lenL (s : Nat) (x : BitVec 64) : Option D := if 0 ≤ ((BitVec.setWidth 8 x).toNat : Int) ∧ (BitVec.setWidth 8 x).toNat < 256 then some (.i .i64 (IntKind.i64.wrap ((s : Int) + sOfU .i64 (lenC (BitVec.setWidth 8 x))))) else none
theorem lenL_eq {s : Nat} {x : BitVec 64} (hs : s ≤ 56) (h : x.toNat < 256) : lenL s x = some (.i .i64 ((s + lenF x.toNat : Nat) : Int)) := by
 unfold lenL
 have e : (BitVec.setWidth 8 x).toNat = x.toNat := by rw [BitVec.toNat_setWidth]; exact Nat.mod_eq_of_lt (by omega)
 have el := lenC_eq (BitVec.setWidth 8 x)
 have hl : lenF x.toNat ≤ 8 := (len_iff _ _).2 h
 rw [if_pos ⟨by omega, by rw [e]; exact h⟩]
 have es : sOfU .i64 (lenC (BitVec.setWidth 8 x)) = (lenF x.toNat : Int) := by
  unfold sOfU
  rw [if_pos (by decide), el, e]
 rw [es, wrap_in (by omega) (by omega)]
 rfl
def lenT (a : BitVec 64) : Option D :=
 if decide (BitVec.ofInt 64 4294967296 ≤ a) = true then
  if decide (BitVec.ofInt 64 65536 ≤ a >>> 32) = true then
   if decide (BitVec.ofInt 64 256 ≤ a >>> 32 >>> 16) = true then lenL 56 (a >>> 32 >>> 16 >>> 8) else lenL 48 (a >>> 32 >>> 16)
  else if decide (BitVec.ofInt 64 256 ≤ a >>> 32) = true then lenL 40 (a >>> 32 >>> 8) else lenL 32 (a >>> 32)
 else
  if decide (BitVec.ofInt 64 65536 ≤ a) = true then
   if decide (BitVec.ofInt 64 256 ≤ a >>> 16) = true then lenL 24 (a >>> 16 >>> 8) else lenL 16 (a >>> 16)
  else if decide (BitVec.ofInt 64 256 ≤ a) = true then lenL 8 (a >>> 8) else lenL 0 a
theorem lenT_eq (a : BitVec 64) : lenT a = some (.i .i64 (lenF a.toNat : Nat)) := by
 have al := a.isLt
 have e32 : (BitVec.ofInt 64 4294967296).toNat = 4294967296 := rfl
 have e16 : (BitVec.ofInt 64 65536).toNat = 65536 := rfl
 have e8 : (BitVec.ofInt 64 256).toNat = 256 := rfl
 have sh : ∀ (x : BitVec 64) (k : Nat), (x >>> k).toNat = x.toNat / 2 ^ k := fun x k => by rw [BitVec.toNat_ushiftRight, Nat.shiftRight_eq_div_pow]
 have d : ∀ {n s m : Nat}, 2 ^ s ≤ n → n / 2 ^ s < 2 ^ m → True := fun _ _ => trivial
 unfold lenT
 simp only [decide_eq_true_eq, BitVec.le_def, sh, e32, e16, e8]
 have fin : ∀ (s : Nat) (x : BitVec 64), s ≤ 56 → x.toNat < 256 → s + lenF x.toNat = lenF a.toNat → lenL s x = some (.i .i64 (lenF a.toNat : Nat)) := fun s x hs hx he => by rw [lenL_eq hs hx, he]
 have s8 : ∀ n : Nat, 256 ≤ n → lenF n = 8 + lenF (n / 2 ^ 8) := fun n h => len_shift (by omega)
 have s16 : ∀ n : Nat, 65536 ≤ n → lenF n = 16 + lenF (n / 2 ^ 16) := fun n h => len_shift (by omega)
 have s32 : ∀ n : Nat, 4294967296 ≤ n → lenF n = 32 + lenF (n / 2 ^ 32) := fun n h => len_shift (by omega)
 split
 ·rename_i h1
  split
  ·rename_i h2
   split
   ·rename_i h3
    refine fin _ _ (by omega) (by simp only [sh]; omega) ?_
    simp only [sh]
    rw [s32 _ h1, s16 _ h2, s8 _ h3]; omega
   ·rename_i h3
    refine fin _ _ (by omega) (by simp only [sh]; omega) ?_
    simp only [sh]
    rw [s32 _ h1, s16 _ h2]; omega
  ·rename_i h2
   split
   ·rename_i h3
    refine fin _ _ (by omega) (by simp only [sh]; omega) ?_
    simp only [sh]
    rw [s32 _ h1, s8 _ h3]; omega
   ·rename_i h3
    refine fin _ _ (by omega) (by simp only [sh]; omega) ?_
    simp only [sh]
    rw [s32 _ h1]
 ·rename_i h1
  split
  ·rename_i h2
   split
   ·rename_i h3
    refine fin _ _ (by omega) (by simp only [sh]; omega) ?_
    simp only [sh]
    rw [s16 _ h2, s8 _ h3]; omega
   ·rename_i h3
    refine fin _ _ (by omega) (by simp only [sh]; omega) ?_
    simp only [sh]
    rw [s16 _ h2]
  ·rename_i h2
   split
   ·rename_i h3
    refine fin _ _ (by omega) (by simp only [sh]; omega) ?_
    simp only [sh]
    rw [s8 _ h3]
   ·rename_i h3
    refine fin _ _ (by omega) (by omega) (by omega)
theorem len_le64 (a : BitVec 64) : lenF a.toNat ≤ 64 := (len_iff _ _).2 a.isLt
theorem len_fit {w : Int} {a : BitVec 64} (h : fitF w a = true) : (lenF a.toNat : Int) ≤ w := by
 obtain ⟨hw, ha⟩ := fitF_nat h
 have key : ∀ k : Nat, pw w = ((2 ^ k : Nat) : Int) → w = k → (lenF a.toNat : Int) ≤ w := fun k h1 h2 => by
  have : lenF a.toNat ≤ k := (len_iff _ _).2 (by omega)
  omega
 rcases okW_cases hw with rfl | rfl | rfl | rfl
 ·exact key 8 rfl rfl
 ·exact key 16 rfl rfl
 ·exact key 32 rfl rfl
 ·exact key 64 rfl rfl
end Go.Wh
namespace Go.Wh
open Go.Ev Go.RowKit
def popN : Nat → Nat → Nat
 | 0, _ => 0
 | k + 1, x => x % 2 + popN k (x / 2)
def mk8 : Nat → Nat → Nat
 | 0, _ => 0
 | n + 1, m => m + 256 * mk8 n m
def P8 (f : Nat → Nat) : Nat → Nat → Nat
 | 0, _ => 0
 | n + 1, x => f (x % 256) + 256 * P8 f n (x / 256)
def pc1 (y : Nat) : Nat := (y / 2 &&& 0x55) + (y &&& 0x55)
def pc2 (y : Nat) : Nat := (y / 4 &&& 0x33) + (y &&& 0x33)
def pc3 (y : Nat) : Nat := (y / 16 + y) &&& 0x0f
theorem and_split (x m M : Nat) (hm : m < 256) : x &&& (m + 256 * M) = ((x % 256) &&& m) + 256 * ((x / 256) &&& M) := by
 have h1 : (x &&& (m + 256 * M)) % 2 ^ 8 = (x % 2 ^ 8) &&& ((m + 256 * M) % 2 ^ 8) := Nat.and_mod_two_pow
 have h2 : (x &&& (m + 256 * M)) / 2 ^ 8 = (x / 2 ^ 8) &&& ((m + 256 * M) / 2 ^ 8) := Nat.and_div_two_pow
 have e1 : (m + 256 * M) % 2 ^ 8 = m := by omega
 have e2 : (m + 256 * M) / 2 ^ 8 = M := by omega
 rw [e1] at h1
 rw [e2] at h2
 have h3 := Nat.div_add_mod (x &&& (m + 256 * M)) (2 ^ 8)
 rw [h1, h2] at h3
 have p : (2 : Nat) ^ 8 = 256 := rfl
 rw [p] at h3
 omega
theorem low55 : ∀ y, y < 128 → ∀ b, b < 2 → (y + 128 * b) &&& 0x55 = y &&& 0x55 := by decide +kernel
theorem low33 : ∀ y, y < 64 → ∀ b, b < 4 → (y + 64 * b) &&& 0x33 = y &&& 0x33 := by decide +kernel
theorem step1 : ∀ n x : Nat, (x / 2 &&& mk8 n 0x55) + (x &&& mk8 n 0x55) = P8 pc1 n x
 | 0, x => by simp [mk8, P8]
 | n + 1, x => by
  have ih := step1 n (x / 256)
  simp only [mk8, P8, pc1]
  rw [and_split _ _ _ (by decide), and_split _ _ _ (by decide)]
  have e1 : x / 2 / 256 = x / 256 / 2 := by omega
  have e2 : x / 2 % 256 = x % 256 / 2 + 128 * (x / 256 % 2) := by omega
  rw [e1, e2, low55 _ (by omega) _ (by omega)]
  omega
theorem step2 : ∀ n x : Nat, (x / 4 &&& mk8 n 0x33) + (x &&& mk8 n 0x33) = P8 pc2 n x
 | 0, x => by simp [mk8, P8]
 | n + 1, x => by
  have ih := step2 n (x / 256)
  simp only [mk8, P8, pc2]
  rw [and_split _ _ _ (by decide), and_split _ _ _ (by decide)]
  have e1 : x / 4 / 256 = x / 256 / 4 := by omega
  have e2 : x / 4 % 256 = x % 256 / 4 + 64 * (x / 256 % 4) := by omega
  rw [e1, e2, low33 _ (by omega) _ (by omega)]
  omega
def Q8 : Nat → Nat → Prop
 | 0, _ => True
 | n + 1, x => x % 16 ≤ 4 ∧ x / 16 % 16 ≤ 4 ∧ Q8 n (x / 256)
theorem low0f (a b : Nat) (ha : a < 16) : (a + 16 * b) &&& 0x0f = a := by
 have h1 : (a + 16 * b) &&& (2 ^ 4 - 1) = (a + 16 * b) % 2 ^ 4 := Nat.and_two_pow_sub_one_eq_mod _ _
 have e : (2 : Nat) ^ 4 - 1 = 0x0f := rfl
 rw [e] at h1
 rw [h1]
 omega
theorem step3 : ∀ n x : Nat, Q8 n x → (x / 16 + x) &&& mk8 n 0x0f = P8 pc3 n x
 | 0, x, _ => by simp [mk8, P8]
 | n + 1, x, ⟨h1, h2, h3⟩ => by
  have ih := step3 n (x / 256) h3
  simp only [mk8, P8, pc3]
  rw [and_split _ _ _ (by decide)]
  have r : x / 256 % 16 ≤ 15 := by omega
  cases n with
  | zero =>
   simp only [mk8, P8, Nat.and_zero, Nat.mul_zero, Nat.add_zero]
   have e2 : (x / 16 + x) % 256 = (x % 16 + x / 16 % 16) + 16 * ((x / 16 + x) % 256 / 16) := by omega
   have e3 : x % 256 / 16 + x % 256 = (x % 16 + x / 16 % 16) + 16 * (x % 256 / 16) := by omega
   rw [e2, low0f _ _ (by omega), e3, low0f _ _ (by omega)]
  | succ m =>
   obtain ⟨h4, h5, h6⟩ := h3
   have e1 : (x / 16 + x) / 256 = x / 256 / 16 + x / 256 := by
    have hx : x = x % 16 + 16 * (x / 16 % 16) + 256 * (x / 256 % 16) + 4096 * (x / 256 / 16) := by omega
    have hd : x / 16 = x / 16 % 16 + 16 * (x / 256 % 16) + 256 * (x / 256 / 16) := by omega
    have hq : x / 256 = x / 256 % 16 + 16 * (x / 256 / 16) := by omega
    generalize x % 16 = y0 at *
    generalize x / 16 % 16 = y1 at *
    generalize x / 256 % 16 = y2 at *
    generalize x / 256 / 16 = y3 at *
    omega
   have e2 : (x / 16 + x) % 256 = (x % 16 + x / 16 % 16) + 16 * ((x / 16 + x) % 256 / 16) := by omega
   have e3 : x % 256 / 16 + x % 256 = (x % 16 + x / 16 % 16) + 16 * (x % 256 / 16) := by omega
   rw [e1, ih, e2, low0f _ _ (by omega), e3, low0f _ _ (by omega)]
theorem P8_get {f : Nat → Nat} (hf : ∀ y, y < 256 → f y < 256) (n x : Nat) : P8 f (n + 1) x % 256 = f (x % 256) ∧ P8 f (n + 1) x / 256 = P8 f n (x / 256) := by
 have := hf (x % 256) (Nat.mod_lt _ (by decide))
 simp only [P8]
 constructor <;> omega
theorem P8_comp {f g : Nat → Nat} (hf : ∀ y, y < 256 → f y < 256) : ∀ n x, P8 g n (P8 f n x) = P8 (fun y => g (f y)) n x
 | 0, _ => rfl
 | n + 1, x => by
  obtain ⟨h1, h2⟩ := P8_get hf n x
  show g (P8 f (n + 1) x % 256) + 256 * P8 g n (P8 f (n + 1) x / 256) = _
  rw [h1, h2, P8_comp hf n]
  rfl
theorem Q8_P8 {f : Nat → Nat} (hf : ∀ y, y < 256 → f y < 256) (hq : ∀ y, y < 256 → f y % 16 ≤ 4 ∧ f y / 16 ≤ 4) : ∀ n x, Q8 n (P8 f n x)
 | 0, _ => trivial
 | n + 1, x => by
  obtain ⟨h1, h2⟩ := P8_get hf n x
  obtain ⟨q1, q2⟩ := hq (x % 256) (Nat.mod_lt _ (by decide))
  refine ⟨?_, ?_, ?_⟩
  ·omega
  ·omega
  ·rw [h2]; exact Q8_P8 hf hq n _
theorem pc1_lt : ∀ y, y < 256 → pc1 y < 256 := by decide +kernel
theorem pc2_lt : ∀ y, y < 256 → pc2 (pc1 y) < 256 := by decide +kernel
theorem pc2_q : ∀ y, y < 256 → pc2 (pc1 y) % 16 ≤ 4 ∧ pc2 (pc1 y) / 16 ≤ 4 := by decide +kernel
theorem pc3_pop : ∀ y, y < 256 → pc3 (pc2 (pc1 y)) = popN 8 y := by decide +kernel
theorem pop8_le : ∀ y, y < 256 → popN 8 y ≤ 8 := by decide +kernel
theorem pop_add : ∀ (k m x : Nat), popN (k + m) x = popN k x + popN m (x / 2 ^ k)
 | 0, m, x => by simp [popN]
 | k + 1, m, x => by
  rw [show k + 1 + m = (k + m) + 1 by omega]
  simp only [popN]
  rw [pop_add k m (x / 2), Nat.div_div_eq_div_mul, Nat.add_assoc]
  congr 3
  rw [Nat.pow_succ, Nat.mul_comm]
theorem pop8_mod (x : Nat) : popN 8 x = popN 8 (x % 256) := by
 simp only [popN]
 omega
theorem P8_lt {f : Nat → Nat} (hf : ∀ y, y < 256 → f y < 256) : ∀ n x, P8 f n x < 256 ^ n
 | 0, _ => by simp [P8]
 | n + 1, x => by
  have h1 := hf (x % 256) (Nat.mod_lt _ (by decide))
  have h2 := P8_lt hf n (x / 256)
  simp only [P8, Nat.pow_succ]
  omega
theorem P8_congr {f g : Nat → Nat} (h : ∀ y, y < 256 → f y = g y) : ∀ n x, P8 f n x = P8 g n x
 | 0, _ => rfl
 | n + 1, x => by simp only [P8]; rw [h _ (Nat.mod_lt _ (by decide)), P8_congr h n]
theorem pop_sum (x : Nat) : popN 64 x = popN 8 (x % 256) + popN 8 (x / 256 % 256) + popN 8 (x / 256 / 256 % 256) + popN 8 (x / 256 / 256 / 256 % 256) + popN 8 (x / 256 / 256 / 256 / 256 % 256) + popN 8 (x / 256 / 256 / 256 / 256 / 256 % 256) + popN 8 (x / 256 / 256 / 256 / 256 / 256 / 256 % 256) + popN 8 (x / 256 / 256 / 256 / 256 / 256 / 256 / 256 % 256) := by
 have s : ∀ k y, popN (8 + k) y = popN 8 (y % 256) + popN k (y / 256) := fun k y => by rw [pop_add, pop8_mod]
 rw [show (64 : Nat) = 8 + (8 + (8 + (8 + (8 + (8 + (8 + (8 + 0))))))) from rfl, s, s, s, s, s, s, s, s]
 simp only [popN]
 omega
def onesF (a : BitVec 64) : BitVec 64 :=
 let x1 := (a >>> 1 &&& 6148914691236517205#64) + (a &&& 6148914691236517205#64)
 let x2 := (x1 >>> 2 &&& 3689348814741910323#64) + (x1 &&& 3689348814741910323#64)
 let x3 := (x2 >>> 4 + x2) &&& 1085102592571150095#64
 let x4 := x3 + x3 >>> 8
 let x5 := x4 + x4 >>> 16
 x5 + x5 >>> 32
theorem ar8 (b0 b1 b2 b3 b4 b5 b6 b7 : Nat) (h0 : b0 ≤ 8) : (b0 + 256 * b1 + 65536 * b2 + 16777216 * b3 + 4294967296 * b4 + 1099511627776 * b5 + 281474976710656 * b6 + 72057594037927936 * b7) / 2 ^ 8 = b1 + 256 * b2 + 65536 * b3 + 16777216 * b4 + 4294967296 * b5 + 1099511627776 * b6 + 281474976710656 * b7 := by omega
theorem ar16 (c0 c1 c2 c3 c4 c5 c6 c7 : Nat) (h0 : c0 ≤ 16) (h1 : c1 ≤ 16) : (c0 + 256 * c1 + 65536 * c2 + 16777216 * c3 + 4294967296 * c4 + 1099511627776 * c5 + 281474976710656 * c6 + 72057594037927936 * c7) / 2 ^ 16 = c2 + 256 * c3 + 65536 * c4 + 16777216 * c5 + 4294967296 * c6 + 1099511627776 * c7 := by omega
theorem ar32 (c0 c1 c2 c3 c4 c5 c6 c7 : Nat) (h0 : c0 ≤ 32) (h1 : c1 ≤ 32) (h2 : c2 ≤ 32) (h3 : c3 ≤ 32) : (c0 + 256 * c1 + 65536 * c2 + 16777216 * c3 + 4294967296 * c4 + 1099511627776 * c5 + 281474976710656 * c6 + 72057594037927936 * c7) / 2 ^ 32 = c4 + 256 * c5 + 65536 * c6 + 16777216 * c7 := by omega
theorem below64 (c0 c1 c2 c3 c4 c5 c6 c7 : Nat) (h0 : c0 ≤ 64) (h1 : c1 ≤ 64) (h2 : c2 ≤ 64) (h3 : c3 ≤ 64) (h4 : c4 ≤ 64) (h5 : c5 ≤ 64) (h6 : c6 ≤ 64) (h7 : c7 ≤ 64) : (c0 + 256 * c1 + 65536 * c2 + 16777216 * c3 + 4294967296 * c4 + 1099511627776 * c5 + 281474976710656 * c6 + 72057594037927936 * c7) % 2 ^ 64 = c0 + 256 * c1 + 65536 * c2 + 16777216 * c3 + 4294967296 * c4 + 1099511627776 * c5 + 281474976710656 * c6 + 72057594037927936 * c7 := Nat.mod_eq_of_lt (by omega)
theorem ad8 (b0 b1 b2 b3 b4 b5 b6 b7 : Nat) : (b0 + 256 * b1 + 65536 * b2 + 16777216 * b3 + 4294967296 * b4 + 1099511627776 * b5 + 281474976710656 * b6 + 72057594037927936 * b7) + (b1 + 256 * b2 + 65536 * b3 + 16777216 * b4 + 4294967296 * b5 + 1099511627776 * b6 + 281474976710656 * b7) = (b0 + b1) + 256 * (b1 + b2) + 65536 * (b2 + b3) + 16777216 * (b3 + b4) + 4294967296 * (b4 + b5) + 1099511627776 * (b5 + b6) + 281474976710656 * (b6 + b7) + 72057594037927936 * b7 := by omega
theorem ad16 (c0 c1 c2 c3 c4 c5 c6 c7 : Nat) : (c0 + 256 * c1 + 65536 * c2 + 16777216 * c3 + 4294967296 * c4 + 1099511627776 * c5 + 281474976710656 * c6 + 72057594037927936 * c7) + (c2 + 256 * c3 + 65536 * c4 + 16777216 * c5 + 4294967296 * c6 + 1099511627776 * c7) = (c0 + c2) + 256 * (c1 + c3) + 65536 * (c2 + c4) + 16777216 * (c3 + c5) + 4294967296 * (c4 + c6) + 1099511627776 * (c5 + c7) + 281474976710656 * c6 + 72057594037927936 * c7 := by omega
theorem ad32 (c0 c1 c2 c3 c4 c5 c6 c7 : Nat) : (c0 + 256 * c1 + 65536 * c2 + 16777216 * c3 + 4294967296 * c4 + 1099511627776 * c5 + 281474976710656 * c6 + 72057594037927936 * c7) + (c4 + 256 * c5 + 65536 * c6 + 16777216 * c7) = (c0 + c4) + 256 * (c1 + c5) + 65536 * (c2 + c6) + 16777216 * (c3 + c7) + 4294967296 * c4 + 1099511627776 * c5 + 281474976710656 * c6 + 72057594037927936 * c7 := by omega
theorem last8 (c0 c1 c2 c3 c4 c5 c6 c7 : Nat) (h0 : c0 ≤ 64) : (c0 + 256 * c1 + 65536 * c2 + 16777216 * c3 + 4294967296 * c4 + 1099511627776 * c5 + 281474976710656 * c6 + 72057594037927936 * c7) % 128 = c0 := by omega
theorem step32 (x5 : BitVec 64) (c0 c1 c2 c3 c4 c5 c6 c7 : Nat) (h0 : c0 ≤ 32) (h1 : c1 ≤ 32) (h2 : c2 ≤ 32) (h3 : c3 ≤ 32) (h4 : c4 ≤ 32) (h5 : c5 ≤ 32) (h6 : c6 ≤ 32) (h7 : c7 ≤ 32) (y5 : x5.toNat = c0 + 256 * c1 + 65536 * c2 + 16777216 * c3 + 4294967296 * c4 + 1099511627776 * c5 + 281474976710656 * c6 + 72057594037927936 * c7) : (x5 + x5 >>> 32).toNat % 128 = c0 + c4 := by
 rw [BitVec.toNat_add, BitVec.toNat_ushiftRight, Nat.shiftRight_eq_div_pow, y5, ar32 c0 c1 c2 c3 c4 c5 c6 c7 h0 h1 h2 h3, ad32 c0 c1 c2 c3 c4 c5 c6 c7, below64 (c0 + c4) (c1 + c5) (c2 + c6) (c3 + c7) c4 c5 c6 c7 (by omega) (by omega) (by omega) (by omega) (by omega) (by omega) (by omega) (by omega), last8 (c0 + c4) (c1 + c5) (c2 + c6) (c3 + c7) c4 c5 c6 c7 (by omega)]
theorem ones_bytes (x3 : BitVec 64) (b0 b1 b2 b3 b4 b5 b6 b7 : Nat) (h0 : b0 ≤ 8) (h1 : b1 ≤ 8) (h2 : b2 ≤ 8) (h3 : b3 ≤ 8) (h4 : b4 ≤ 8) (h5 : b5 ≤ 8) (h6 : b6 ≤ 8) (h7 : b7 ≤ 8)
  (hx : x3.toNat = b0 + 256 * b1 + 65536 * b2 + 16777216 * b3 + 4294967296 * b4 + 1099511627776 * b5 + 281474976710656 * b6 + 72057594037927936 * b7) :
  (((x3 + x3 >>> 8) + (x3 + x3 >>> 8) >>> 16) + ((x3 + x3 >>> 8) + (x3 + x3 >>> 8) >>> 16) >>> 32 &&& BitVec.ofInt 64 127).toNat = b0 + b1 + b2 + b3 + b4 + b5 + b6 + b7 := by
 have sh : ∀ (x : BitVec 64) (k : Nat), (x >>> k).toNat = x.toNat / 2 ^ k := fun x k => by rw [BitVec.toNat_ushiftRight, Nat.shiftRight_eq_div_pow]
 have m127 : ∀ y : BitVec 64, (y &&& BitVec.ofInt 64 127).toNat = y.toNat % 128 := fun y => by
  rw [BitVec.toNat_and]
  exact Nat.and_two_pow_sub_one_eq_mod y.toNat 7
 have y4 : (x3 + x3 >>> 8).toNat = (b0 + b1) + 256 * (b1 + b2) + 65536 * (b2 + b3) + 16777216 * (b3 + b4) + 4294967296 * (b4 + b5) + 1099511627776 * (b5 + b6) + 281474976710656 * (b6 + b7) + 72057594037927936 * b7 := by
  rw [BitVec.toNat_add, sh, hx, ar8 _ _ _ _ _ _ _ _ h0, ad8, below64 _ _ _ _ _ _ _ _ (by omega) (by omega) (by omega) (by omega) (by omega) (by omega) (by omega) (by omega)]
 generalize x3 + x3 >>> 8 = x4 at *
 have y5 : (x4 + x4 >>> 16).toNat = (b0 + b1 + (b2 + b3)) + 256 * (b1 + b2 + (b3 + b4)) + 65536 * (b2 + b3 + (b4 + b5)) + 16777216 * (b3 + b4 + (b5 + b6)) + 4294967296 * (b4 + b5 + (b6 + b7)) + 1099511627776 * (b5 + b6 + b7) + 281474976710656 * (b6 + b7) + 72057594037927936 * b7 := by
  rw [BitVec.toNat_add, sh, y4, ar16 _ _ _ _ _ _ _ _ (by omega) (by omega), ad16, below64 _ _ _ _ _ _ _ _ (by omega) (by omega) (by omega) (by omega) (by omega) (by omega) (by omega) (by omega)]
 generalize x4 + x4 >>> 16 = x5 at *
 rw [m127, step32 x5 _ _ _ _ _ _ _ _ (by omega) (by omega) (by omega) (by omega) (by omega) (by omega) (by omega) (by omega) y5]
 omega
theorem ones_fin {n : Nat} (x3 : BitVec 64) (k3' : x3.toNat = P8 (popN 8) 8 n) : (((x3 + x3 >>> 8) + (x3 + x3 >>> 8) >>> 16) + ((x3 + x3 >>> 8) + (x3 + x3 >>> 8) >>> 16) >>> 32 &&& BitVec.ofInt 64 127).toNat = popN 64 n := by
 rw [pop_sum]
 have z := fun y => pop8_le (y % 256) (Nat.mod_lt _ (by decide))
 refine ones_bytes x3 _ _ _ _ _ _ _ _ (z _) (z _) (z _) (z _) (z _) (z _) (z _) (z _) ?_
 rw [k3']
 simp only [P8, Nat.mul_add, ← Nat.mul_assoc, Nat.mul_zero, Nat.add_zero, ← Nat.add_assoc]
theorem ones_eq (a : BitVec 64) : (onesF a &&& BitVec.ofInt 64 127).toNat = popN 64 a.toNat := by
 have sh : ∀ (x : BitVec 64) (k : Nat), (x >>> k).toNat = x.toNat / 2 ^ k := fun x k => by rw [BitVec.toNat_ushiftRight, Nat.shiftRight_eq_div_pow]
 have c5 : (6148914691236517205#64).toNat = mk8 8 0x55 := by decide
 have c3 : (3689348814741910323#64).toNat = mk8 8 0x33 := by decide
 have cf : (1085102592571150095#64).toNat = mk8 8 0x0f := by decide
 have bd : ∀ {f : Nat → Nat}, (∀ y, y < 256 → f y < 256) → ∀ x, P8 f 8 x < 18446744073709551616 := fun {f} hf x => P8_lt hf 8 x
 have k1 : ((a >>> 1 &&& 6148914691236517205#64) + (a &&& 6148914691236517205#64)).toNat = P8 pc1 8 a.toNat := by
  rw [BitVec.toNat_add, BitVec.toNat_and, BitVec.toNat_and, sh, c5, Nat.pow_one, step1]
  exact Nat.mod_eq_of_lt (bd pc1_lt _)
 have k2 : ∀ x1 : BitVec 64, x1.toNat = P8 pc1 8 a.toNat → ((x1 >>> 2 &&& 3689348814741910323#64) + (x1 &&& 3689348814741910323#64)).toNat = P8 (fun y => pc2 (pc1 y)) 8 a.toNat := fun x1 h => by
  rw [BitVec.toNat_add, BitVec.toNat_and, BitVec.toNat_and, sh, c3, h, show (2 : Nat) ^ 2 = 4 from rfl, step2, P8_comp pc1_lt]
  exact Nat.mod_eq_of_lt (bd pc2_lt _)
 have k3 : ∀ x2 : BitVec 64, x2.toNat = P8 (fun y => pc2 (pc1 y)) 8 a.toNat → ((x2 >>> 4 + x2) &&& 1085102592571150095#64).toNat = P8 (popN 8) 8 a.toNat := fun x2 h => by
  have q := Q8_P8 pc2_lt pc2_q 8 a.toNat
  have b := bd pc2_lt a.toNat
  rw [← h] at q b
  have hl : x2.toNat / 16 + x2.toNat < 18446744073709551616 := by
   obtain ⟨_, _, _, _, _, _, _, _, _, _, _, _, _, _, q1, q2, _⟩ := q
   omega
  rw [BitVec.toNat_and, BitVec.toNat_add, sh, cf, show (2 : Nat) ^ 4 = 16 from rfl, Nat.mod_eq_of_lt hl, step3 8 _ q, h, P8_comp pc2_lt]
  exact P8_congr pc3_pop 8 _
 exact ones_fin _ (k3 _ (k2 _ k1))
end Go.Wh
namespace Go.Wh
open Go.Ev Go.RowKit
def tzF (a : BitVec 64) : Int := (Lib.ctz 64 a.toNat : Nat)
def oneT (o : BitVec 8) (w : Int) (a : BitVec 64) : Option D :=
 if (o == 26#8) = true then some (.tup [.u64 (BitVec.ofInt 64 (w - lenF a.toNat)), .i .i64 0]) else
 if (o == 27#8) = true then some (.tup [.u64 (BitVec.ofInt 64 (min (tzF a) w)), .i .i64 0]) else
 if (o == 28#8) = true then some (.tup [.u64 (BitVec.ofInt 64 (popN 64 a.toNat : Nat)), .i .i64 0]) else
 if (o == 29#8) = true then some (.tup [.u64 (if 0 ≤ sgnF w a then a else -a &&& maskF w), .i .i64 0]) else
 if (o == 30#8) = true then some (.tup [.u64 (-a &&& maskF w), .i .i64 0]) else
 if (o == 31#8) = true then some (.tup [.u64 (~~~a &&& maskF w), .i .i64 0]) else
 some (.tup [.u64 0#64, .i .i64 2])
def oneV (o : BitVec 8) (w : Int) (a : BitVec 64) : BitVec 64 :=
 if (o == 26#8) = true then BitVec.ofInt 64 (w - lenF a.toNat) else
 if (o == 27#8) = true then BitVec.ofInt 64 (min (tzF a) w) else
 if (o == 28#8) = true then BitVec.ofInt 64 (popN 64 a.toNat : Nat) else
 if (o == 29#8) = true then (if 0 ≤ sgnF w a then a else -a &&& maskF w) else
 if (o == 30#8) = true then -a &&& maskF w else
 if (o == 31#8) = true then ~~~a &&& maskF w else 0#64
def oneE (o : BitVec 8) : Int := if (o == 26#8) = true then 0 else if (o == 27#8) = true then 0 else if (o == 28#8) = true then 0 else if (o == 29#8) = true then 0 else if (o == 30#8) = true then 0 else if (o == 31#8) = true then 0 else 2
theorem oneT_eq (o : BitVec 8) (w : Int) (a : BitVec 64) : oneT o w a = some (.tup [.u64 (oneV o w a), .i .i64 (oneE o)]) := by
 unfold oneT oneV oneE
 generalize (o == 26#8) = c1
 generalize (o == 27#8) = c2
 generalize (o == 28#8) = c3
 generalize (o == 29#8) = c4
 generalize (o == 30#8) = c5
 generalize (o == 31#8) = c6
 cases c1
 ·cases c2
  ·cases c3
   ·cases c4
    ·cases c5
     ·cases c6 <;> rfl
     ·rfl
    ·rfl
   ·rfl
  ·rfl
 ·rfl
def oneN (o : BitVec 8) (w : Int) (a : BitVec 64) : BitVec 64 := ifF (mayF w [a]) (oneV o w a)
def oneR (o : BitVec 8) (w : Int) (a : BitVec 64) : Int := if mayF w [a] = true then oneE o else 2
theorem one_end {o : BitVec 8} {w : Int} {a : BitVec 64} {x : Option D} (h : mayF w [a] = true → x = oneT o w a) : (if (!mayF w [a]) = true then some (D.tup [.u64 0#64, .i .i64 2]) else x) = some (.tup [.u64 (oneN o w a), .i .i64 (oneR o w a)]) := by
 unfold oneN oneR
 cases hm : mayF w [a]
 ·rfl
 ·rw [if_neg (by simp), h hm, oneT_eq]
  rfl
def oneP (l t p : BitVec 64 → Int) (o : BitVec 8) (w : Int) (a : BitVec 64) : Option D :=
 if (o == 26#8) = true then some (D.tup [D.u64 (BitVec.ofInt 64 (IntKind.i64.wrap (IntKind.i64.wrap (l a - 64) + w))), D.i IntKind.i64 0]) else
 if (o == 27#8) = true then some (D.tup [D.u64 (BitVec.ofInt 64 (if w < t a then w else t a)), D.i IntKind.i64 0]) else
 if (o == 28#8) = true then some (D.tup [D.u64 (BitVec.ofInt 64 (p a)), D.i IntKind.i64 0]) else
 if (o == 29#8) = true then (if fitF w a = true then if decide (0 ≤ sgnF w a) = true then some (D.tup [D.u64 a, D.i IntKind.i64 0]) else if okW w = true then some (D.tup [D.u64 (-a &&& maskF w), D.i IntKind.i64 0]) else none else none) else
 if (o == 30#8) = true then (if okW w = true then some (D.tup [D.u64 (-a &&& maskF w), D.i IntKind.i64 0]) else none) else
 if (o == 31#8) = true then (if okW w = true then some (D.tup [D.u64 (~~~a &&& maskF w), D.i IntKind.i64 0]) else none) else
 some (D.tup [D.u64 0#64, D.i IntKind.i64 2])
theorem oneP_eq {o : BitVec 8} {w : Int} {a : BitVec 64} (h : mayF w [a] = true) : oneP (fun a => 64 - (lenF a.toNat : Nat)) tzF (fun a => (popN 64 a.toNat : Nat)) o w a = oneT o w a := by
 have ha := may_fit1 h
 have hw := (fitF_nat ha).1
 obtain ⟨g1, g2⟩ := okW_rng hw
 have l64 := len_le64 a
 have e1 : IntKind.i64.wrap (IntKind.i64.wrap (64 - ((lenF a.toNat : Nat) : Int) - 64) + w) = w - ((lenF a.toNat : Nat) : Int) := by
  rw [wrap_in (n := 64 - ((lenF a.toNat : Nat) : Int) - 64) (by omega) (by omega), wrap_in (by omega) (by omega)]
  omega
 have e2 : (if w < tzF a then w else tzF a) = min (tzF a) w := by split <;> omega
 unfold oneP oneT
 simp only [e1, e2, ha, hw, if_true, decide_eq_true_eq]
 by_cases h0 : 0 ≤ sgnF w a
 ·simp only [h0, if_true]
 ·simp only [h0, if_false]
end Go.Wh
namespace Go.Wh
open Go.Ev Go.RowKit
theorem pop_le : ∀ k x : Nat, popN k x ≤ k
 | 0, _ => Nat.le_refl _
 | k + 1, x => by have := pop_le k (x / 2); simp only [popN]; omega
theorem fit_or {w : Int} {a b : BitVec 64} (ha : fitF w a = true) (hb : fitF w b = true) : fitF w (a ||| b) = true := by
 have e : a ||| b = (a ||| b) &&& maskF w := by
  refine bits_of fun j _ => ?_
  have e1 := congrArg (fun z : BitVec 64 => z.getLsbD j) (fit_id ha)
  have e2 := congrArg (fun z : BitVec 64 => z.getLsbD j) (fit_id hb)
  simp only [BitVec.getLsbD_and] at e1 e2
  simp only [BitVec.getLsbD_and, BitVec.getLsbD_or]
  revert e1 e2
  cases a.getLsbD j <;> cases b.getLsbD j <;> cases (maskF w).getLsbD j <;> simp
 rw [e]; exact fit_and (fitF_nat ha).1 _
theorem fit_andd {w : Int} {a b : BitVec 64} (ha : fitF w a = true) : fitF w (a &&& b) = true := by
 have e : a &&& b = (a &&& b) &&& maskF w := by
  refine bits_of fun j _ => ?_
  have e1 := congrArg (fun z : BitVec 64 => z.getLsbD j) (fit_id ha)
  simp only [BitVec.getLsbD_and] at e1
  simp only [BitVec.getLsbD_and]
  revert e1
  cases a.getLsbD j <;> cases b.getLsbD j <;> cases (maskF w).getLsbD j <;> simp
 rw [e]; exact fit_and (fitF_nat ha).1 _
theorem fit_xor {w : Int} {a b : BitVec 64} (ha : fitF w a = true) (hb : fitF w b = true) : fitF w (a ^^^ b) = true := by
 have e : a ^^^ b = (a ^^^ b) &&& maskF w := by
  refine bits_of fun j _ => ?_
  have e1 := congrArg (fun z : BitVec 64 => z.getLsbD j) (fit_id ha)
  have e2 := congrArg (fun z : BitVec 64 => z.getLsbD j) (fit_id hb)
  simp only [BitVec.getLsbD_and] at e1 e2
  simp only [BitVec.getLsbD_and, BitVec.getLsbD_xor]
  revert e1 e2
  cases a.getLsbD j <;> cases b.getLsbD j <;> cases (maskF w).getLsbD j <;> simp
 rw [e]; exact fit_and (fitF_nat ha).1 _
end Go.Wh
namespace Go.Wh
open Go.Ev Go.RowKit
theorem fit_zero {w : Int} (h : okW w = true) : fitF w 0#64 = true := by
 rcases okW_cases h with rfl | rfl | rfl | rfl <;> decide
theorem fit_sat {o : BitVec 8} {w : Int} {a b : BitVec 64} (ha : fitF w a = true) (hb : fitF w b = true) : fitF w (satV o w a b) = true := by
 obtain ⟨hw, h1⟩ := fitF_nat ha
 have hm := mask_nat hw
 unfold satV
 split
 ·split
  ·exact fit_of_nat hw (by omega)
  ·rename_i h
   rw [BitVec.lt_def, BitVec.toNat_sub] at h
   have := (maskF w).isLt
   refine fit_of_nat hw ?_
   rw [BitVec.toNat_add]
   have al := a.isLt
   have bl := b.isLt
   omega
 ·split
  ·split
   ·exact fit_zero hw
   ·rename_i h
    rw [BitVec.lt_def] at h
    refine fit_le ha ?_
    rw [BitVec.toNat_sub]
    have al := a.isLt
    have bl := b.isLt
    omega
  ·split
   ·exact fit_and hw _
   ·exact fit_and hw _
theorem fit_mov {o : BitVec 8} {w : Int} {a n : BitVec 64} (ha : fitF w a = true) : fitF w (movV o w a n) = true := by
 obtain ⟨hw, h1⟩ := fitF_nat ha
 unfold movV
 split
 ·exact fit_and hw _
 ·split
  ·refine fit_le ha ?_
   rw [BitVec.toNat_ushiftRight, Nat.shiftRight_eq_div_pow]
   exact Nat.div_le_self _ _
  ·split
   ·exact fit_and hw _
   ·split <;> exact fit_and hw _
theorem fit_ite {w : Int} {c : Bool} {x y : BitVec 64} (h1 : c = true → fitF w x = true) (h2 : fitF w y = true) : fitF w (if c = true then x else y) = true := by
 split
 ·rename_i h; exact h1 h
 ·exact h2
theorem two_fits {o : BitVec 8} {w : Int} {a b : BitVec 64} (ha : fitF w a = true) (hb : fitF w b = true) (h4 : (o == 4#8) = false) (h5 : (o == 5#8) = false) (h6 : (o == 6#8) = false) (h7 : (o == 7#8) = false) : fitF w (twoV o w a b) = true := by
 obtain ⟨hw, h1⟩ := fitF_nat ha
 obtain ⟨_, h2⟩ := fitF_nat hb
 unfold twoV
 refine fit_ite (fun h => fit_and hw _) ?_
 refine fit_ite (fun h => fit_and hw _) ?_
 refine fit_ite (fun h => fit_and hw _) ?_
 refine fit_ite (fun h => by rw [h4] at h; cases h) ?_
 refine fit_ite (fun h => by rw [h5] at h; cases h) ?_
 refine fit_ite (fun h => by rw [h6] at h; cases h) ?_
 refine fit_ite (fun h => by rw [h7] at h; cases h) ?_
 refine fit_ite (fun h => fit_andd ha) ?_
 refine fit_ite (fun h => fit_or ha hb) ?_
 refine fit_ite (fun h => fit_xor ha hb) ?_
 refine fit_ite (fun h => fit_mov ha) ?_
 refine fit_ite (fun h => fit_mov ha) ?_
 refine fit_ite (fun h => fit_mov ha) ?_
 refine fit_ite (fun h => fit_mov ha) ?_
 refine fit_ite (fun h => fit_mov ha) ?_
 refine fit_ite (fun h => fit_sat ha hb) ?_
 refine fit_ite (fun h => fit_sat ha hb) ?_
 refine fit_ite (fun h => fit_sat ha hb) ?_
 refine fit_ite (fun h => fit_sat ha hb) ?_
 refine fit_ite (fun h => by split <;> assumption) ?_
 refine fit_ite (fun h => by split <;> assumption) ?_
 refine fit_ite (fun h => by split <;> assumption) ?_
 refine fit_ite (fun h => by split <;> assumption) ?_
 refine fit_ite (fun h => fit_of_nat hw (by rw [avg_nat]; omega)) ?_
 refine fit_ite (fun _ => ?_) (fit_zero hw)
 split
 ·rename_i hw16
  have : w = 16 := by simpa using hw16
  subst this
  exact fit_and hw _
 ·exact fit_zero hw
theorem one_fits {o : BitVec 8} {w : Int} {a : BitVec 64} (ha : fitF w a = true) : fitF w (oneV o w a) = true := by
 obtain ⟨hw, h1⟩ := fitF_nat ha
 obtain ⟨g1, g2⟩ := okW_rng hw
 have p : 64 < pw w := by rcases okW_cases hw with rfl | rfl | rfl | rfl <;> decide
 have hl := len_fit ha
 have hp : popN 64 a.toNat ≤ 64 := pop_le 64 _
 have ht : 0 ≤ tzF a := Int.natCast_nonneg _
 unfold oneV
 refine fit_ite (fun _ => fit_of_nat hw (by rw [ofInt_nat (by omega) (by omega)]; omega)) ?_
 refine fit_ite (fun _ => fit_of_nat hw (by rw [ofInt_nat (by omega) (by omega)]; omega)) ?_
 refine fit_ite (fun _ => fit_of_nat hw (by rw [ofInt_nat (by omega) (by omega)]; omega)) ?_
 refine fit_ite (fun _ => ?_) (fit_ite (fun _ => fit_and hw _) (fit_ite (fun _ => fit_and hw _) (fit_zero hw)))
 split
 ·exact ha
 ·exact fit_and hw _
end Go.Wh

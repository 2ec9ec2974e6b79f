/-
  Part of the proof; what its functions and lemmas say stands in the text.
-/
import Derived.Test.YtnbafdmlfpmfkaaGreatDoorV23B
import Derived.Test.YtnbafdmlfpmfkaaGreatDoorEvE
set_option linter.unusedSimpArgs false
set_option linter.unusedVariables false
namespace Go.L23
open Go.Ev Go.Proofs Go.RowKit Go.Rt
open Go.Wh
def half8 (p : BitVec 64) : List (BitVec 64) := [p >>> 0 &&& maskF 8, p >>> 8 &&& maskF 8, p >>> 16 &&& maskF 8, p >>> 24 &&& maskF 8, p >>> 32 &&& maskF 8, p >>> 40 &&& maskF 8, p >>> 48 &&& maskF 8, p >>> 56 &&& maskF 8]
instance {ρ : Nat → BitVec 64} (p : BitVec 64) [Rf ρ p] : RfL ρ (half8 p) :=
 have h : RfL ρ [p >>> 0 &&& maskF 8, p >>> 8 &&& maskF 8, p >>> 16 &&& maskF 8, p >>> 24 &&& maskF 8, p >>> 32 &&& maskF 8, p >>> 40 &&& maskF 8, p >>> 48 &&& maskF 8, p >>> 56 &&& maskF 8] := inferInstance
 ⟨h.e, h.ok⟩
theorem half8_asm (z0 z1 z2 z3 z4 z5 z6 z7 : BitVec 64) : half8 (asm [bt (z0 &&& maskF 8) 0, bt (z1 &&& maskF 8) 0, bt (z2 &&& maskF 8) 0, bt (z3 &&& maskF 8) 0, bt (z4 &&& maskF 8) 0, bt (z5 &&& maskF 8) 0, bt (z6 &&& maskF 8) 0, bt (z7 &&& maskF 8) 0]) = [z0 &&& maskF 8, z1 &&& maskF 8, z2 &&& maskF 8, z3 &&& maskF 8, z4 &&& maskF 8, z5 &&& maskF 8, z6 &&& maskF 8, z7 &&& maskF 8] := routeL (ρ := atW z0 z1 z2 z3 z4 z5 z6 z7) (by kernel_rfl)
theorem listF_half8 (p q : BitVec 64) : listF p q 8 = half8 p ++ half8 q := by kernel_rfl
theorem list_vecF8 (l : List (BitVec 64)) (hl : l.length = 16) (hz : ∀ z ∈ l, z ≤ maskF 8) : listF (vecF 8 l).1 (vecF 8 l).2 8 = l := by
 have hw : okW 8 = true := by decide
 obtain ⟨z0, l0, rfl, h0⟩ := len_cons hl
 obtain ⟨z1, l1, rfl, h1⟩ := len_cons h0
 obtain ⟨z2, l2, rfl, h2⟩ := len_cons h1
 obtain ⟨z3, l3, rfl, h3⟩ := len_cons h2
 obtain ⟨z4, l4, rfl, h4⟩ := len_cons h3
 obtain ⟨z5, l5, rfl, h5⟩ := len_cons h4
 obtain ⟨z6, l6, rfl, h6⟩ := len_cons h5
 obtain ⟨z7, l7, rfl, h7⟩ := len_cons h6
 obtain ⟨z8, l8, rfl, h8⟩ := len_cons h7
 obtain ⟨z9, l9, rfl, h9⟩ := len_cons h8
 obtain ⟨z10, l10, rfl, h10⟩ := len_cons h9
 obtain ⟨z11, l11, rfl, h11⟩ := len_cons h10
 obtain ⟨z12, l12, rfl, h12⟩ := len_cons h11
 obtain ⟨z13, l13, rfl, h13⟩ := len_cons h12
 obtain ⟨z14, l14, rfl, h14⟩ := len_cons h13
 obtain ⟨z15, l15, rfl, h15⟩ := len_cons h14
 obtain rfl := len_nil h15
 have f0 := and_fit hw (hz z0 (by simp))
 have f1 := and_fit hw (hz z1 (by simp))
 have f2 := and_fit hw (hz z2 (by simp))
 have f3 := and_fit hw (hz z3 (by simp))
 have f4 := and_fit hw (hz z4 (by simp))
 have f5 := and_fit hw (hz z5 (by simp))
 have f6 := and_fit hw (hz z6 (by simp))
 have f7 := and_fit hw (hz z7 (by simp))
 have f8 := and_fit hw (hz z8 (by simp))
 have f9 := and_fit hw (hz z9 (by simp))
 have f10 := and_fit hw (hz z10 (by simp))
 have f11 := and_fit hw (hz z11 (by simp))
 have f12 := and_fit hw (hz z12 (by simp))
 have f13 := and_fit hw (hz z13 (by simp))
 have f14 := and_fit hw (hz z14 (by simp))
 have f15 := and_fit hw (hz z15 (by simp))
 rw [listF_half8]
 have e0 : half8 (vecF 8 [z0, z1, z2, z3, z4, z5, z6, z7, z8, z9, z10, z11, z12, z13, z14, z15]).1 = [z0, z1, z2, z3, z4, z5, z6, z7] := by
  refine Eq.trans (b := half8 (asm [bt z0 0, bt z1 0, bt z2 0, bt z3 0, bt z4 0, bt z5 0, bt z6 0, bt z7 0])) (by kernel_rfl) ?_
  rw [f0, f1, f2, f3, f4, f5, f6, f7]
  exact half8_asm z0 z1 z2 z3 z4 z5 z6 z7
 have e8 : half8 (vecF 8 [z0, z1, z2, z3, z4, z5, z6, z7, z8, z9, z10, z11, z12, z13, z14, z15]).2 = [z8, z9, z10, z11, z12, z13, z14, z15] := by
  refine Eq.trans (b := half8 (asm [bt z8 0, bt z9 0, bt z10 0, bt z11 0, bt z12 0, bt z13 0, bt z14 0, bt z15 0])) (by kernel_rfl) ?_
  rw [f8, f9, f10, f11, f12, f13, f14, f15]
  exact half8_asm z8 z9 z10 z11 z12 z13 z14 z15
 rw [e0, e8]; rfl
def half16 (p : BitVec 64) : List (BitVec 64) := [p >>> 0 &&& maskF 16, p >>> 16 &&& maskF 16, p >>> 32 &&& maskF 16, p >>> 48 &&& maskF 16]
instance {ρ : Nat → BitVec 64} (p : BitVec 64) [Rf ρ p] : RfL ρ (half16 p) :=
 have h : RfL ρ [p >>> 0 &&& maskF 16, p >>> 16 &&& maskF 16, p >>> 32 &&& maskF 16, p >>> 48 &&& maskF 16] := inferInstance
 ⟨h.e, h.ok⟩
theorem half16_asm (z0 z1 z2 z3 : BitVec 64) : half16 (asm [bt (z0 &&& maskF 16) 0, bt (z0 &&& maskF 16) 8, bt (z1 &&& maskF 16) 0, bt (z1 &&& maskF 16) 8, bt (z2 &&& maskF 16) 0, bt (z2 &&& maskF 16) 8, bt (z3 &&& maskF 16) 0, bt (z3 &&& maskF 16) 8]) = [z0 &&& maskF 16, z1 &&& maskF 16, z2 &&& maskF 16, z3 &&& maskF 16] := routeL (ρ := atW z0 z1 z2 z3 0#64 0#64 0#64 0#64) (by kernel_rfl)
theorem listF_half16 (p q : BitVec 64) : listF p q 16 = half16 p ++ half16 q := by kernel_rfl
theorem list_vecF16 (l : List (BitVec 64)) (hl : l.length = 8) (hz : ∀ z ∈ l, z ≤ maskF 16) : listF (vecF 16 l).1 (vecF 16 l).2 16 = l := by
 have hw : okW 16 = true := by decide
 obtain ⟨z0, l0, rfl, h0⟩ := len_cons hl
 obtain ⟨z1, l1, rfl, h1⟩ := len_cons h0
 obtain ⟨z2, l2, rfl, h2⟩ := len_cons h1
 obtain ⟨z3, l3, rfl, h3⟩ := len_cons h2
 obtain ⟨z4, l4, rfl, h4⟩ := len_cons h3
 obtain ⟨z5, l5, rfl, h5⟩ := len_cons h4
 obtain ⟨z6, l6, rfl, h6⟩ := len_cons h5
 obtain ⟨z7, l7, rfl, h7⟩ := len_cons h6
 obtain rfl := len_nil h7
 have f0 := and_fit hw (hz z0 (by simp))
 have f1 := and_fit hw (hz z1 (by simp))
 have f2 := and_fit hw (hz z2 (by simp))
 have f3 := and_fit hw (hz z3 (by simp))
 have f4 := and_fit hw (hz z4 (by simp))
 have f5 := and_fit hw (hz z5 (by simp))
 have f6 := and_fit hw (hz z6 (by simp))
 have f7 := and_fit hw (hz z7 (by simp))
 rw [listF_half16]
 have e0 : half16 (vecF 16 [z0, z1, z2, z3, z4, z5, z6, z7]).1 = [z0, z1, z2, z3] := by
  refine Eq.trans (b := half16 (asm [bt z0 0, bt z0 8, bt z1 0, bt z1 8, bt z2 0, bt z2 8, bt z3 0, bt z3 8])) (by kernel_rfl) ?_
  rw [f0, f1, f2, f3]
  exact half16_asm z0 z1 z2 z3
 have e4 : half16 (vecF 16 [z0, z1, z2, z3, z4, z5, z6, z7]).2 = [z4, z5, z6, z7] := by
  refine Eq.trans (b := half16 (asm [bt z4 0, bt z4 8, bt z5 0, bt z5 8, bt z6 0, bt z6 8, bt z7 0, bt z7 8])) (by kernel_rfl) ?_
  rw [f4, f5, f6, f7]
  exact half16_asm z4 z5 z6 z7
 rw [e0, e4]; rfl
def half32 (p : BitVec 64) : List (BitVec 64) := [p >>> 0 &&& maskF 32, p >>> 32 &&& maskF 32]
instance {ρ : Nat → BitVec 64} (p : BitVec 64) [Rf ρ p] : RfL ρ (half32 p) :=
 have h : RfL ρ [p >>> 0 &&& maskF 32, p >>> 32 &&& maskF 32] := inferInstance
 ⟨h.e, h.ok⟩
theorem half32_asm (z0 z1 : BitVec 64) : half32 (asm [bt (z0 &&& maskF 32) 0, bt (z0 &&& maskF 32) 8, bt (z0 &&& maskF 32) 16, bt (z0 &&& maskF 32) 24, bt (z1 &&& maskF 32) 0, bt (z1 &&& maskF 32) 8, bt (z1 &&& maskF 32) 16, bt (z1 &&& maskF 32) 24]) = [z0 &&& maskF 32, z1 &&& maskF 32] := routeL (ρ := atW z0 z1 0#64 0#64 0#64 0#64 0#64 0#64) (by kernel_rfl)
theorem listF_half32 (p q : BitVec 64) : listF p q 32 = half32 p ++ half32 q := by kernel_rfl
theorem list_vecF32 (l : List (BitVec 64)) (hl : l.length = 4) (hz : ∀ z ∈ l, z ≤ maskF 32) : listF (vecF 32 l).1 (vecF 32 l).2 32 = l := by
 have hw : okW 32 = true := by decide
 obtain ⟨z0, l0, rfl, h0⟩ := len_cons hl
 obtain ⟨z1, l1, rfl, h1⟩ := len_cons h0
 obtain ⟨z2, l2, rfl, h2⟩ := len_cons h1
 obtain ⟨z3, l3, rfl, h3⟩ := len_cons h2
 obtain rfl := len_nil h3
 have f0 := and_fit hw (hz z0 (by simp))
 have f1 := and_fit hw (hz z1 (by simp))
 have f2 := and_fit hw (hz z2 (by simp))
 have f3 := and_fit hw (hz z3 (by simp))
 rw [listF_half32]
 have e0 : half32 (vecF 32 [z0, z1, z2, z3]).1 = [z0, z1] := by
  refine Eq.trans (b := half32 (asm [bt z0 0, bt z0 8, bt z0 16, bt z0 24, bt z1 0, bt z1 8, bt z1 16, bt z1 24])) (by kernel_rfl) ?_
  rw [f0, f1]
  exact half32_asm z0 z1
 have e2 : half32 (vecF 32 [z0, z1, z2, z3]).2 = [z2, z3] := by
  refine Eq.trans (b := half32 (asm [bt z2 0, bt z2 8, bt z2 16, bt z2 24, bt z3 0, bt z3 8, bt z3 16, bt z3 24])) (by kernel_rfl) ?_
  rw [f2, f3]
  exact half32_asm z2 z3
 rw [e0, e2]; rfl
def half64 (p : BitVec 64) : List (BitVec 64) := [p >>> 0 &&& maskF 64]
instance {ρ : Nat → BitVec 64} (p : BitVec 64) [Rf ρ p] : RfL ρ (half64 p) :=
 have h : RfL ρ [p >>> 0 &&& maskF 64] := inferInstance
 ⟨h.e, h.ok⟩
theorem half64_asm (z0 : BitVec 64) : half64 (asm [bt (z0 &&& maskF 64) 0, bt (z0 &&& maskF 64) 8, bt (z0 &&& maskF 64) 16, bt (z0 &&& maskF 64) 24, bt (z0 &&& maskF 64) 32, bt (z0 &&& maskF 64) 40, bt (z0 &&& maskF 64) 48, bt (z0 &&& maskF 64) 56]) = [z0 &&& maskF 64] := routeL (ρ := atW z0 0#64 0#64 0#64 0#64 0#64 0#64 0#64) (by kernel_rfl)
theorem listF_half64 (p q : BitVec 64) : listF p q 64 = half64 p ++ half64 q := by kernel_rfl
theorem list_vecF64 (l : List (BitVec 64)) (hl : l.length = 2) (hz : ∀ z ∈ l, z ≤ maskF 64) : listF (vecF 64 l).1 (vecF 64 l).2 64 = l := by
 have hw : okW 64 = true := by decide
 obtain ⟨z0, l0, rfl, h0⟩ := len_cons hl
 obtain ⟨z1, l1, rfl, h1⟩ := len_cons h0
 obtain rfl := len_nil h1
 have f0 := and_fit hw (hz z0 (by simp))
 have f1 := and_fit hw (hz z1 (by simp))
 rw [listF_half64]
 have e0 : half64 (vecF 64 [z0, z1]).1 = [z0] := by
  refine Eq.trans (b := half64 (asm [bt z0 0, bt z0 8, bt z0 16, bt z0 24, bt z0 32, bt z0 40, bt z0 48, bt z0 56])) (by kernel_rfl) ?_
  rw [f0]
  exact half64_asm z0
 have e1 : half64 (vecF 64 [z0, z1]).2 = [z1] := by
  refine Eq.trans (b := half64 (asm [bt z1 0, bt z1 8, bt z1 16, bt z1 24, bt z1 32, bt z1 40, bt z1 48, bt z1 56])) (by kernel_rfl) ?_
  rw [f1]
  exact half64_asm z1
 rw [e0, e1]; rfl
theorem list_vecF {w : Int} {l : List (BitVec 64)} (h : okOf w l = true) : listF (vecF w l).1 (vecF w l).2 w = l := by
 obtain ⟨hw, hl, hz⟩ := okOf_cases h
 rcases okW_cases hw with rfl | rfl | rfl | rfl
 ·exact list_vecF8 l hl hz
 ·exact list_vecF16 l hl hz
 ·exact list_vecF32 l hl hz
 ·exact list_vecF64 l hl hz
theorem get_set {w i : Int} {k : Nat} (hi : okI w i = true) (hk : k < (128 / w).toNat) (x y : BitVec 64) {z : BitVec 64} (hz : z ≤ maskF w) :
  getF (setF x y w i z).1 (setF x y w i z).2 w k = if (k : Int) = i then z else getF x y w k := by
 simp only [okI, Bool.and_eq_true, decide_eq_true_eq] at hi
 obtain ⟨⟨hw, h0⟩, h1⟩ := hi
 have hp := okW_pos hw
 have e := rset hw h0 h1 x y hz
 have hok : okOf w ((listF x y w).set i.toNat z) = true := by
  have h := okOf_list x y hw
  simp only [okOf, hw, Bool.true_and, Bool.and_eq_true, decide_eq_true_eq, List.all_eq_true, List.length_set] at h ⊢
  refine ⟨h.1, fun u hu => ?_⟩
  rcases List.mem_or_eq_of_mem_set hu with hu | rfl
  ·exact h.2 u hu
  ·exact hz
 have e2 := list_vecF hok
 rw [e] at e2
 have e3 := congrArg (fun l => l.getD k 0#64) e2
 rw [listF_get hk] at e3
 rw [e3, List.getD_eq_getElem?_getD, List.getElem?_set]
 by_cases hki : (k : Int) = i
 ·have : i.toNat = k := by omega
  rw [if_pos hki, if_pos this, if_pos (by rw [listF_length]; omega)]
  rfl
 ·have : ¬ i.toNat = k := by omega
  rw [if_neg hki, if_neg this, ← List.getD_eq_getElem?_getD, listF_get hk]
end Go.L23
namespace Go.L23
open Go.Ev Go.Proofs Go.RowKit Go.Rt
open Go.Wh
theorem wrap_i64 {n : Int} (h1 : -9223372036854775808 ≤ n) (h2 : n < 9223372036854775808) : IntKind.i64.wrap n = n := by
 have e : IntKind.i64.wrap n = if (n % 18446744073709551616) ≥ 9223372036854775808 then n % 18446744073709551616 - 18446744073709551616 else n % 18446744073709551616 := by
  simp [IntKind.wrap, IntKind.signed, IntKind.bits]
 rw [e]
 split <;> omega
def pk (a0 a1 b0 b1 : BitVec 64) (c : BitVec 8) : BitVec 64 := if c < 16#8 then getF a0 a1 8 (sOfU .i64 c) else getF b0 b1 8 (IntKind.i64.wrap (sOfU .i64 c - 16))
theorem lt16_32 {c : BitVec 8} (h : c < 16#8) : c < 32#8 := by
 rw [BitVec.lt_def] at h ⊢
 simp at h ⊢
 omega
noncomputable def c36 : Code := findLoop (loops (Tryz.f110.body.getD .skip)) 3
noncomputable abbrev keep36 : List Nat := [3, 4, 6, 7, 8, 11, 12]
noncomputable def S36 (a0 : BitVec 64) (a1 : BitVec 64) (b0 : BitVec 64) (b1 : BitVec 64) (l : List (BitVec 8)) (r0 : BitVec 64) (r1 : BitVec 64) (o0 : BitVec 64) (o1 : BitVec 64) (e : Int) (i : Int) : St := ⟨mkT 40 [(3, .ptr 0 0), (4, .ptr 1 0), (6, .ptr 2 0), (7, .i .i64 e), (8, .ptr 3 0), (11, .a8 l), (12, .i .i64 i)], [some ⟨.agg [.u64 a0, .u64 a1], true⟩, some ⟨.agg [.u64 b0, .u64 b1], true⟩, some ⟨.agg [.u64 r0, .u64 r1], true⟩, some ⟨.agg [.u64 o0, .u64 o1], true⟩]⟩
theorem nf36 (a0 : BitVec 64) (a1 : BitVec 64) (b0 : BitVec 64) (b1 : BitVec 64) (l : List (BitVec 8)) (r0 : BitVec 64) (r1 : BitVec 64) (o0 : BitVec 64) (o1 : BitVec 64) (e : Int) (i : Int) (K : Ex → St → Option D) : exec Tryz.prog G0 (tabOf [(99, getS), (81, setS)]) (fun _ => []) (fun _ => none) 50 c36 (S36 a0 a1 b0 b1 l r0 r1 o0 o1 e i) (fun e st => K e (canon keep36 st)) =
 if decide (i < 16) = true then if 0 ≤ i ∧ i < 16 then if i.toNat < (l).length then if decide (l.getD i.toNat 0 < BitVec.ofInt 8 16) = true then K .normal ⟨mkT 40 [(3, .ptr 0 0), (4, .ptr 1 0), (6, .ptr 2 0), (7, .i .i64 e), (8, .ptr 3 0), (11, .a8 l), (12, .i .i64 (IntKind.i64.wrap (i + 1)))], [some ⟨.agg [.u64 a0, .u64 a1], true⟩, some ⟨.agg [.u64 b0, .u64 b1], true⟩, some ⟨.agg [.u64 r0, .u64 r1], true⟩, some ⟨.agg [.u64 (setF o0 o1 8 i (getF a0 a1 8 (sOfU .i64 (l.getD i.toNat 0#8)))).fst, .u64 (setF o0 o1 8 i (getF a0 a1 8 (sOfU .i64 (l.getD i.toNat 0#8)))).snd], true⟩]⟩ else if decide (l.getD i.toNat 0 < BitVec.ofInt 8 32) = true then K .normal ⟨mkT 40 [(3, .ptr 0 0), (4, .ptr 1 0), (6, .ptr 2 0), (7, .i .i64 e), (8, .ptr 3 0), (11, .a8 l), (12, .i .i64 (IntKind.i64.wrap (i + 1)))], [some ⟨.agg [.u64 a0, .u64 a1], true⟩, some ⟨.agg [.u64 b0, .u64 b1], true⟩, some ⟨.agg [.u64 r0, .u64 r1], true⟩, some ⟨.agg [.u64 (setF o0 o1 8 i (getF b0 b1 8 (IntKind.i64.wrap (sOfU .i64 (l.getD i.toNat 0#8) - 16)))).fst, .u64 (setF o0 o1 8 i (getF b0 b1 8 (IntKind.i64.wrap (sOfU .i64 (l.getD i.toNat 0#8) - 16)))).snd], true⟩]⟩ else K .ret ⟨mkT 40 [(3, .ptr 0 0), (4, .ptr 1 0), (6, .ptr 2 0), (7, .i .i64 2), (8, .ptr 3 0), (11, .a8 l), (12, .i .i64 i)], [some ⟨.agg [.u64 a0, .u64 a1], true⟩, some ⟨.agg [.u64 b0, .u64 b1], true⟩, some ⟨.agg [.u64 0#64, .u64 0#64], true⟩, some ⟨.agg [.u64 o0, .u64 o1], true⟩]⟩ else none else none else K (.exit 0) ⟨mkT 40 [(3, .ptr 0 0), (4, .ptr 1 0), (6, .ptr 2 0), (7, .i .i64 e), (8, .ptr 3 0), (11, .a8 l), (12, .i .i64 i)], [some ⟨.agg [.u64 a0, .u64 a1], true⟩, some ⟨.agg [.u64 b0, .u64 b1], true⟩, some ⟨.agg [.u64 r0, .u64 r1], true⟩, some ⟨.agg [.u64 o0, .u64 o1], true⟩]⟩  := by kernel_rfl
structure Z36 where
 a0 : BitVec 64
 a1 : BitVec 64
 b0 : BitVec 64
 b1 : BitVec 64
 l : List (BitVec 8)
 r0 : BitVec 64
 r1 : BitVec 64
 o0 : BitVec 64
 o1 : BitVec 64
 e : Int
 i : Nat
noncomputable abbrev Y36 (y : Z36) : St := S36 y.a0 y.a1 y.b0 y.b1 y.l y.r0 y.r1 y.o0 y.o1 y.e y.i
noncomputable def parse36 (st : St) : Option (Bool × Z36) := match st with
 | ⟨t, [some ⟨.agg [.u64 a0, .u64 a1], true⟩, some ⟨.agg [.u64 b0, .u64 b1], true⟩, some ⟨.agg [.u64 r0, .u64 r1], true⟩, some ⟨.agg [.u64 o0, .u64 o1], true⟩]⟩ =>
  match t.getD 3 .any, t.getD 4 .any, t.getD 6 .any, t.getD 7 .any, t.getD 8 .any, t.getD 11 .any, t.getD 12 .any with
  | .ptr 0 0, .ptr 1 0, .ptr 2 0, .i .i64 e, .ptr 3 0, .a8 l, .i .i64 (.ofNat i) => some (decide (t.length = 40 ∧ (l.length = 16 ∧ i ≤ 16)), ⟨a0, a1, b0, b1, l, r0, r1, o0, o1, e, i⟩)
  | _, _, _, _, _, _, _ => none
 | _ => none
def go36 (y : Z36) : Bool := decide (y.i < 16) && decide (y.l.getD y.i 0#8 < 32#8)
def next36 (y : Z36) : Z36 := { y with o0 := (setF y.o0 y.o1 8 y.i (pk y.a0 y.a1 y.b0 y.b1 (y.l.getD y.i 0#8))).1, o1 := (setF y.o0 y.o1 8 y.i (pk y.a0 y.a1 y.b0 y.b1 (y.l.getD y.i 0#8))).2, i := y.i + 1 }
def I36 (y : Z36) : Prop := y.l.length = 16 ∧ y.i ≤ 16
theorem body36 (y : Z36) (h : I36 y) (K : Ex → St → Option D) : exec Tryz.prog G0 (tabOf [(99, getS), (81, setS)]) (fun _ => []) (fun _ => none) 50 c36 (Y36 y) (fun e st => K e (canon keep36 st)) =
  if go36 y = true then K .normal (Y36 (next36 y)) else if decide (y.i < 16) = true then K .ret (Y36 { y with r0 := 0#64, r1 := 0#64, e := 2 }) else K (.exit 0) (Y36 y) := by
 obtain ⟨hl, hi⟩ := h
 refine (nf36 y.a0 y.a1 y.b0 y.b1 y.l y.r0 y.r1 y.o0 y.o1 y.e y.i K).trans ?_
 have e16 : BitVec.ofInt 8 16 = 16#8 := rfl
 have e32 : BitVec.ofInt 8 32 = 32#8 := rfl
 have z8 : (0 : BitVec 8) = 0#8 := rfl
 simp only [e16, e32, z8, Int.toNat_natCast, hl]
 unfold go36
 by_cases h : y.i < 16
 ·have h1 : (y.i : Int) < 16 := by omega
  have h2 : (0 : Int) ≤ (y.i : Int) := by omega
  have hw : IntKind.i64.wrap ((y.i : Int) + 1) = ((y.i + 1 : Nat) : Int) := by rw [wrap_i64 (by omega) (by omega)]; rfl
  simp only [h, h1, h2, decide_true, if_true, and_self, Bool.true_and, hw]
  by_cases h3 : y.l.getD y.i 0#8 < 16#8
  ·have h4 := lt16_32 h3
   simp only [h3, h4, decide_true, if_true, next36, pk]
   rfl
  ·by_cases h4 : y.l.getD y.i 0#8 < 32#8
   ·simp only [h3, h4, decide_true, decide_false, if_true, if_false, Bool.false_eq_true, next36, pk]
    rfl
   ·simp only [h3, h4, decide_false, if_false, Bool.false_eq_true]
    rfl
 ·have h1 : ¬ (y.i : Int) < 16 := by omega
  simp only [h, h1, decide_false, Bool.false_and, Bool.false_eq_true, if_false]
  rfl
theorem inv36 (y : Z36) (h : I36 y) (hg : go36 y = true) : I36 (next36 y) := by
 obtain ⟨hl, hi⟩ := h
 simp only [go36, Bool.and_eq_true, decide_eq_true_eq] at hg
 exact ⟨hl, by show y.i + 1 ≤ 16; omega⟩
theorem m36 (y : Z36) (h : go36 y = true) : 16 - y.i = 16 - (next36 y).i + 1 := by
 simp only [go36, Bool.and_eq_true, decide_eq_true_eq] at h
 show 16 - y.i = 16 - (y.i + 1) + 1
 omega
noncomputable abbrev sum36 : LoopF := sumG keep36 parse36 (fun y => decide (y.i < 16)) .ret (fun y => Y36 { y with r0 := 0#64, r1 := 0#64, e := 2 }) (.exit 0) (fun y => Y36 y) (fun y => iter (go36) (next36) ((fun y => 16 - y.i) y) y)
theorem sem36 : SemOK Tryz.prog G0 c36 sum36 := by
 refine SemOK.count (sp := tabOf [(99, getS), (81, setS)]) (ann := fun _ => []) (ls := fun _ => none) (TableOK.cons get41 (TableOK.cons set43 TableOK.nil)) mixed 50 LsOK.none Y36 _ _ (by simp [Ex.out]) _ _ (by simp [Ex.out]) _ keep36 parse36 (go36) (next36) I36 inv36 body36 (fun y => 16 - y.i) m36 ?_
 intro st y hx
 unfold parse36 at hx
 split at hx
 ·rename_i t a0 a1 b0 b1 r0 r1 o0 o1
  split at hx
  ·rename_i e l i h3 h4 h6 h7 h8 h11 h12
   simp only [Option.some.injEq, Prod.mk.injEq, decide_eq_true_eq] at hx
   obtain ⟨⟨g1, g2⟩, rfl⟩ := hx
   refine ⟨g2, fun w0 L' a w hrel => ?_⟩
   exact Rel.pick hrel g1 fun x hx => by
    simp only [List.mem_cons, List.not_mem_nil, or_false] at hx
    rcases hx with rfl | rfl | rfl | rfl | rfl | rfl | rfl
    ·exact h3
    ·exact h4
    ·exact h6
    ·exact h7
    ·exact h8
    ·exact h11
    ·exact h12
  ·cases hx
 ·cases hx
noncomputable def ls36 : Nat → Option LoopF := lsOf [(3, sum36)]
theorem loops36 : LsOK Tryz.prog G0 ls36 (Tryz.f110.body.getD .skip) := by
 refine LsOK.of (of_decide_eq_true (by kernel_rfl)) fun x hx => ?_
 simp only [List.mem_cons, List.not_mem_nil, or_false] at hx
 subst hx
 exact sem36
def okSh (l : List (BitVec 8)) : Bool := l.all fun c => decide (c < 32#8)
theorem run36 (k : Nat) : ∀ y : Z36, (run next36 k y).i = y.i + k ∧ (run next36 k y).l = y.l := by
 induction k with
 | zero => intro y; exact ⟨rfl, rfl⟩
 | succ k ih => intro y; obtain ⟨h1, h2⟩ := ih (next36 y); exact ⟨by rw [run, h1]; show y.i + 1 + k = _; omega, h2⟩
theorem getD_mem {l : List (BitVec 8)} {k : Nat} (h : k < l.length) : l.getD k 0#8 ∈ l := by
 rw [List.getD_eq_getElem?_getD, List.getElem?_eq_getElem h]; exact List.getElem_mem h
theorem fin36_ok (y : Z36) (h0 : y.i = 0) (hl : y.l.length = 16) (hok : okSh y.l = true) : iter go36 next36 (16 - y.i) y = run next36 16 y := by
 rw [h0]
 refine iter_run _ _ fun k hk => ?_
 obtain ⟨h1, h2⟩ := run36 k y
 simp only [go36, h1, h2, h0, Nat.zero_add, Bool.and_eq_true, decide_eq_true_eq]
 exact ⟨hk, of_decide_eq_true (List.all_eq_true.1 hok _ (getD_mem (by omega)))⟩
theorem fin36_no (y : Z36) (h0 : y.i = 0) (hl : y.l.length = 16) (hok : okSh y.l = false) : decide ((iter go36 next36 (16 - y.i) y).i < 16) = true := by
 have hJ := iter_inv (go := go36) (next := next36) (J := fun z => z.l = y.l ∧ ∀ j, j < z.i → y.l.getD j 0#8 < 32#8) (fun z ⟨h1, h2⟩ hg => ⟨h1, fun j hj => by
  simp only [go36, Bool.and_eq_true, decide_eq_true_eq] at hg
  rcases Nat.lt_or_ge j z.i with h | h
  ·exact h2 j h
  ·have : j = z.i := by have : j < z.i + 1 := hj; omega
   rw [this, ← h1]; exact hg.2⟩) (16 - y.i) y ⟨rfl, fun j hj => by omega⟩
 have hs := iter_stop (go := go36) (next := next36) (m := fun y => 16 - y.i) m36 _ y rfl
 revert hJ hs
 generalize iter go36 next36 (16 - y.i) y = z
 intro ⟨h1, h2⟩ hs
 rcases Nat.lt_or_ge z.i 16 with h | h
 ·exact decide_eq_true h
 ·exfalso
  have : okSh y.l = true := by
   refine List.all_eq_true.2 fun c hc => decide_eq_true ?_
   obtain ⟨j, hj, rfl⟩ := List.mem_iff_getElem.1 hc
   have := h2 j (by omega)
   rwa [List.getD_eq_getElem?_getD, List.getElem?_eq_getElem hj] at this
  rw [hok] at this; cases this
def sh0 (a0 a1 b0 b1 : BitVec 64) (l : List (BitVec 8)) (k : Nat) : BitVec 8 := bt (pk a0 a1 b0 b1 (l.getD k 0#8)) 0
def shLo (a0 a1 b0 b1 : BitVec 64) (l : List (BitVec 8)) : BitVec 64 := w8 (sh0 a0 a1 b0 b1 l 0) (sh0 a0 a1 b0 b1 l 1) (sh0 a0 a1 b0 b1 l 2) (sh0 a0 a1 b0 b1 l 3) (sh0 a0 a1 b0 b1 l 4) (sh0 a0 a1 b0 b1 l 5) (sh0 a0 a1 b0 b1 l 6) (sh0 a0 a1 b0 b1 l 7)
def shHi (a0 a1 b0 b1 : BitVec 64) (l : List (BitVec 8)) : BitVec 64 := w8 (sh0 a0 a1 b0 b1 l 8) (sh0 a0 a1 b0 b1 l 9) (sh0 a0 a1 b0 b1 l 10) (sh0 a0 a1 b0 b1 l 11) (sh0 a0 a1 b0 b1 l 12) (sh0 a0 a1 b0 b1 l 13) (sh0 a0 a1 b0 b1 l 14) (sh0 a0 a1 b0 b1 l 15)
noncomputable def ShufS : Ev.Spec := guarded fun
 | [.agg [.u64 a0, .u64 a1], .agg [.u64 b0, .u64 b1], .a8 l] => some (decide (l.length = 16), .tup [vec (ifF (okSh l) (shLo a0 a1 b0 b1 l)) (ifF (okSh l) (shHi a0 a1 b0 b1 l)), .i .i64 (errF (okSh l))])
 | _ => none
theorem getF_fit (x y : BitVec 64) (i : Int) : getF x y 8 i ≤ maskF 8 := by
 unfold getF
 split <;> exact and_le _ _
theorem pk_fit (a0 a1 b0 b1 : BitVec 64) (c : BitVec 8) : pk a0 a1 b0 b1 c = pk a0 a1 b0 b1 c &&& maskF 8 := by
 refine and_fit (t := 8) (by decide) ?_
 unfold pk
 split <;> exact getF_fit _ _ _
theorem route8' (z0 z1 z2 z3 z4 z5 z6 z7 : BitVec 64) : put (put (put (put (put (put (put (put 0#64 (maskF 8) 0 (z0 &&& maskF 8)) (maskF 8) 8 (z1 &&& maskF 8)) (maskF 8) 16 (z2 &&& maskF 8)) (maskF 8) 24 (z3 &&& maskF 8)) (maskF 8) 32 (z4 &&& maskF 8)) (maskF 8) 40 (z5 &&& maskF 8)) (maskF 8) 48 (z6 &&& maskF 8)) (maskF 8) 56 (z7 &&& maskF 8) = w8 (bt (z0 &&& maskF 8) 0) (bt (z1 &&& maskF 8) 0) (bt (z2 &&& maskF 8) 0) (bt (z3 &&& maskF 8) 0) (bt (z4 &&& maskF 8) 0) (bt (z5 &&& maskF 8) 0) (bt (z6 &&& maskF 8) 0) (bt (z7 &&& maskF 8) 0) := route (ρ := atW z0 z1 z2 z3 z4 z5 z6 z7) (by kernel_rfl)
theorem route_pk (a0 a1 b0 b1 : BitVec 64) (c0 c1 c2 c3 c4 c5 c6 c7 : BitVec 8) : put (put (put (put (put (put (put (put 0#64 (maskF 8) 0 (pk a0 a1 b0 b1 c0)) (maskF 8) 8 (pk a0 a1 b0 b1 c1)) (maskF 8) 16 (pk a0 a1 b0 b1 c2)) (maskF 8) 24 (pk a0 a1 b0 b1 c3)) (maskF 8) 32 (pk a0 a1 b0 b1 c4)) (maskF 8) 40 (pk a0 a1 b0 b1 c5)) (maskF 8) 48 (pk a0 a1 b0 b1 c6)) (maskF 8) 56 (pk a0 a1 b0 b1 c7) =
  w8 (bt (pk a0 a1 b0 b1 c0) 0) (bt (pk a0 a1 b0 b1 c1) 0) (bt (pk a0 a1 b0 b1 c2) 0) (bt (pk a0 a1 b0 b1 c3) 0) (bt (pk a0 a1 b0 b1 c4) 0) (bt (pk a0 a1 b0 b1 c5) 0) (bt (pk a0 a1 b0 b1 c6) 0) (bt (pk a0 a1 b0 b1 c7) 0) := by
 have := route8' (pk a0 a1 b0 b1 c0) (pk a0 a1 b0 b1 c1) (pk a0 a1 b0 b1 c2) (pk a0 a1 b0 b1 c3) (pk a0 a1 b0 b1 c4) (pk a0 a1 b0 b1 c5) (pk a0 a1 b0 b1 c6) (pk a0 a1 b0 b1 c7)
 simp only [← pk_fit] at this
 exact this
theorem res36 (a0 a1 b0 b1 r0 r1 : BitVec 64) (e : Int) (l : List (BitVec 8)) (hl : l.length = 16) : (run next36 16 ⟨a0, a1, b0, b1, l, r0, r1, 0#64, 0#64, e, 0⟩).o0 = shLo a0 a1 b0 b1 l ∧ (run next36 16 ⟨a0, a1, b0, b1, l, r0, r1, 0#64, 0#64, e, 0⟩).o1 = shHi a0 a1 b0 b1 l := by
 obtain ⟨c0, l0, rfl, h0⟩ := len_cons hl
 obtain ⟨c1, l1, rfl, h1⟩ := len_cons h0
 obtain ⟨c2, l2, rfl, h2⟩ := len_cons h1
 obtain ⟨c3, l3, rfl, h3⟩ := len_cons h2
 obtain ⟨c4, l4, rfl, h4⟩ := len_cons h3
 obtain ⟨c5, l5, rfl, h5⟩ := len_cons h4
 obtain ⟨c6, l6, rfl, h6⟩ := len_cons h5
 obtain ⟨c7, l7, rfl, h7⟩ := len_cons h6
 obtain ⟨c8, l8, rfl, h8⟩ := len_cons h7
 obtain ⟨c9, l9, rfl, h9⟩ := len_cons h8
 obtain ⟨c10, l10, rfl, h10⟩ := len_cons h9
 obtain ⟨c11, l11, rfl, h11⟩ := len_cons h10
 obtain ⟨c12, l12, rfl, h12⟩ := len_cons h11
 obtain ⟨c13, l13, rfl, h13⟩ := len_cons h12
 obtain ⟨c14, l14, rfl, h14⟩ := len_cons h13
 obtain ⟨c15, l15, rfl, h15⟩ := len_cons h14
 obtain rfl := len_nil h15
 have e0 : (run next36 16 ⟨a0, a1, b0, b1, [c0, c1, c2, c3, c4, c5, c6, c7, c8, c9, c10, c11, c12, c13, c14, c15], r0, r1, 0#64, 0#64, e, 0⟩).o0 = put (put (put (put (put (put (put (put 0#64 (maskF 8) 0 (pk a0 a1 b0 b1 c0)) (maskF 8) 8 (pk a0 a1 b0 b1 c1)) (maskF 8) 16 (pk a0 a1 b0 b1 c2)) (maskF 8) 24 (pk a0 a1 b0 b1 c3)) (maskF 8) 32 (pk a0 a1 b0 b1 c4)) (maskF 8) 40 (pk a0 a1 b0 b1 c5)) (maskF 8) 48 (pk a0 a1 b0 b1 c6)) (maskF 8) 56 (pk a0 a1 b0 b1 c7) := by kernel_rfl
 have e1 : (run next36 16 ⟨a0, a1, b0, b1, [c0, c1, c2, c3, c4, c5, c6, c7, c8, c9, c10, c11, c12, c13, c14, c15], r0, r1, 0#64, 0#64, e, 0⟩).o1 = put (put (put (put (put (put (put (put 0#64 (maskF 8) 0 (pk a0 a1 b0 b1 c8)) (maskF 8) 8 (pk a0 a1 b0 b1 c9)) (maskF 8) 16 (pk a0 a1 b0 b1 c10)) (maskF 8) 24 (pk a0 a1 b0 b1 c11)) (maskF 8) 32 (pk a0 a1 b0 b1 c12)) (maskF 8) 40 (pk a0 a1 b0 b1 c13)) (maskF 8) 48 (pk a0 a1 b0 b1 c14)) (maskF 8) 56 (pk a0 a1 b0 b1 c15) := by kernel_rfl
 exact ⟨e0.trans (route_pk _ _ _ _ _ _ _ _ _ _ _ _), e1.trans (route_pk _ _ _ _ _ _ _ _ _ _ _ _)⟩
theorem law36 (a0 a1 b0 b1 : BitVec 64) (l : List (BitVec 8)) : execFnL Tryz.prog G0 (tabOf []) (fun _ => []) ls36 Tryz.f110 50 [vec a0 a1, vec b0 b1, .a8 l] some =
 if l.length = 16 then if decide (40 = 40 ∧ (l.length = 16 ∧ 0 ≤ 16)) = true then
  if decide ((iter go36 next36 (16 - 0) ⟨a0, a1, b0, b1, l, 0#64, 0#64, 0#64, 0#64, 0, 0⟩).i < 16) = true then some (.tup [vec 0#64 0#64, .i .i64 2])
  else some (.tup [vec (iter go36 next36 (16 - 0) ⟨a0, a1, b0, b1, l, 0#64, 0#64, 0#64, 0#64, 0, 0⟩).o0 (iter go36 next36 (16 - 0) ⟨a0, a1, b0, b1, l, 0#64, 0#64, 0#64, 0#64, 0, 0⟩).o1, .i .i64 0])
 else none else none := by kernel_rfl
theorem Shuf36 : Snd 110 ShufS := by
 refine Sound.guard (execFnL_sound (ann := fun _ => []) (ls := ls36) TableOK.nil mixed Tryz.func110 (by kernel_rfl) 50 (fun c hc => by
  have e : c = Tryz.f110.body.getD .skip := by rw [hc]; rfl
  rw [e]; exact loops36)) fun ds d h => ?_
 split at h
 ·rename_i a0 a1 b0 b1 l
  simp only [Option.some.injEq, Prod.mk.injEq, decide_eq_true_eq] at h
  obtain ⟨hl, rfl⟩ := h
  refine (law36 a0 a1 b0 b1 l).trans ?_
  rw [if_pos hl, if_pos (by simp [hl])]
  cases hok : okSh l
  ·rw [if_pos (fin36_no ⟨a0, a1, b0, b1, l, 0#64, 0#64, 0#64, 0#64, 0, 0⟩ rfl hl hok)]
   rfl
  ·have e := fin36_ok ⟨a0, a1, b0, b1, l, 0#64, 0#64, 0#64, 0#64, 0, 0⟩ rfl hl hok
   dsimp only at e
   obtain ⟨e0, e1⟩ := res36 a0 a1 b0 b1 0#64 0#64 0 l hl
   have e2 := (run36 16 ⟨a0, a1, b0, b1, l, 0#64, 0#64, 0#64, 0#64, 0, 0⟩).1
   rw [e, e0, e1, e2]
   rfl
 ·cases h
end Go.L23
namespace Go.L23
open Go.Ev Go.Proofs Go.RowKit Go.Rt
open Go.Wh
theorem set_get {w : Int} (hw : okW w = true) {k : Nat} (hk : (k : Int) < 128 / w) (x y : BitVec 64) : setF x y w k (getF x y w k) = (x, y) := by
 have hp := okW_pos hw
 have hz : getF x y w k ≤ maskF w := by unfold getF; split <;> exact and_le _ _
 have e := rset hw (by omega) hk x y hz
 rw [← e]
 have e2 : (listF x y w).set ((k : Int)).toNat (getF x y w k) = listF x y w := by
  rw [Int.toNat_natCast]
  have h1 : k < (listF x y w).length := by rw [listF_length]; omega
  have h2 := listF_get (x := x) (y := y) (w := w) (n := k) (by omega)
  rw [List.getD_eq_getElem?_getD, List.getElem?_eq_getElem h1] at h2
  simp only [Option.getD_some] at h2
  rw [← h2]
  exact List.set_getElem_self h1
 rw [e2, vecF_list x y hw]
def clear (o0 o1 : BitVec 64) (i : Nat) : Bool := (List.range 16).all fun k => decide (k < i) || (getF o0 o1 8 k == 0#64)
theorem clear_at {o0 o1 : BitVec 64} {i k : Nat} (h : clear o0 o1 i = true) (hk : k < 16) (hi : i ≤ k) : getF o0 o1 8 k = 0#64 := by
 have := List.all_eq_true.1 h k (List.mem_range.2 hk)
 simp only [Bool.or_eq_true, decide_eq_true_eq, beq_iff_eq] at this
 rcases this with h | h
 ·omega
 ·exact h
def qk (a0 a1 : BitVec 64) (c : BitVec 8) : BitVec 64 := if c < 16#8 then getF a0 a1 8 (sOfU .i64 c) else 0#64
theorem qk_le (a0 a1 : BitVec 64) (c : BitVec 8) : qk a0 a1 c ≤ maskF 8 := by
 unfold qk
 split
 ·exact getF_fit _ _ _
 ·decide
theorem qk_fit (a0 a1 : BitVec 64) (c : BitVec 8) : qk a0 a1 c = qk a0 a1 c &&& maskF 8 := and_fit (t := 8) (by decide) (qk_le a0 a1 c)
theorem okI8 {i : Nat} (h : i < 16) : okI 8 i = true := by
 have e : (128 : Int) / 8 = 16 := by decide
 have w : okW 8 = true := by decide
 simp only [okI, w, e, Bool.true_and, Bool.and_eq_true, decide_eq_true_eq]
 omega
noncomputable def c38 : Code := findLoop (loops (Tryz.f111.body.getD .skip)) 3
noncomputable abbrev keep38 : List Nat := [2, 4, 5, 9, 10]
noncomputable def S38 (a0 : BitVec 64) (a1 : BitVec 64) (r0 : BitVec 64) (r1 : BitVec 64) (o0 : BitVec 64) (o1 : BitVec 64) (l : List (BitVec 8)) (i : Int) : St := ⟨mkT 25 [(2, .ptr 0 0), (4, .ptr 1 0), (5, .ptr 2 0), (9, .a8 l), (10, .i .i64 i)], [some ⟨.agg [.u64 a0, .u64 a1], true⟩, some ⟨.agg [.u64 r0, .u64 r1], true⟩, some ⟨.agg [.u64 o0, .u64 o1], true⟩]⟩
theorem nf38 (a0 : BitVec 64) (a1 : BitVec 64) (r0 : BitVec 64) (r1 : BitVec 64) (o0 : BitVec 64) (o1 : BitVec 64) (l : List (BitVec 8)) (i : Int) (K : Ex → St → Option D) : exec Tryz.prog G0 (tabOf [(99, getS), (81, setS)]) (fun _ => []) (fun _ => none) 50 c38 (S38 a0 a1 r0 r1 o0 o1 l i) (fun e st => K e (canon keep38 st)) =
 if decide (i < 16) = true then if 0 ≤ i ∧ i < 16 then if i.toNat < (l).length then if decide (l.getD i.toNat 0 < BitVec.ofInt 8 16) = true then K .normal ⟨mkT 25 [(2, .ptr 0 0), (4, .ptr 1 0), (5, .ptr 2 0), (9, .a8 l), (10, .i .i64 (IntKind.i64.wrap (i + 1)))], [some ⟨.agg [.u64 a0, .u64 a1], true⟩, some ⟨.agg [.u64 r0, .u64 r1], true⟩, some ⟨.agg [.u64 (setF o0 o1 8 i (getF a0 a1 8 (sOfU .i64 (l.getD i.toNat 0#8)))).fst, .u64 (setF o0 o1 8 i (getF a0 a1 8 (sOfU .i64 (l.getD i.toNat 0#8)))).snd], true⟩]⟩ else K .normal ⟨mkT 25 [(2, .ptr 0 0), (4, .ptr 1 0), (5, .ptr 2 0), (9, .a8 l), (10, .i .i64 (IntKind.i64.wrap (i + 1)))], [some ⟨.agg [.u64 a0, .u64 a1], true⟩, some ⟨.agg [.u64 r0, .u64 r1], true⟩, some ⟨.agg [.u64 o0, .u64 o1], true⟩]⟩ else none else none else K (.exit 0) ⟨mkT 25 [(2, .ptr 0 0), (4, .ptr 1 0), (5, .ptr 2 0), (9, .a8 l), (10, .i .i64 i)], [some ⟨.agg [.u64 a0, .u64 a1], true⟩, some ⟨.agg [.u64 r0, .u64 r1], true⟩, some ⟨.agg [.u64 o0, .u64 o1], true⟩]⟩  := by kernel_rfl
structure Z38 where
 a0 : BitVec 64
 a1 : BitVec 64
 r0 : BitVec 64
 r1 : BitVec 64
 o0 : BitVec 64
 o1 : BitVec 64
 l : List (BitVec 8)
 i : Nat
noncomputable abbrev Y38 (y : Z38) : St := S38 y.a0 y.a1 y.r0 y.r1 y.o0 y.o1 y.l y.i
noncomputable def parse38 (st : St) : Option (Bool × Z38) := match st with
 | ⟨t, [some ⟨.agg [.u64 a0, .u64 a1], true⟩, some ⟨.agg [.u64 r0, .u64 r1], true⟩, some ⟨.agg [.u64 o0, .u64 o1], true⟩]⟩ =>
  match t.getD 2 .any, t.getD 4 .any, t.getD 5 .any, t.getD 9 .any, t.getD 10 .any with
  | .ptr 0 0, .ptr 1 0, .ptr 2 0, .a8 l, .i .i64 (.ofNat i) => some (decide (t.length = 25 ∧ (l.length = 16 ∧ i ≤ 16 ∧ clear o0 o1 i = true)), ⟨a0, a1, r0, r1, o0, o1, l, i⟩)
  | _, _, _, _, _ => none
 | _ => none
def go38 (y : Z38) : Bool := decide (y.i < 16)
def next38 (y : Z38) : Z38 := { y with o0 := (setF y.o0 y.o1 8 y.i (qk y.a0 y.a1 (y.l.getD y.i 0#8))).1, o1 := (setF y.o0 y.o1 8 y.i (qk y.a0 y.a1 (y.l.getD y.i 0#8))).2, i := y.i + 1 }
def I38 (y : Z38) : Prop := y.l.length = 16 ∧ y.i ≤ 16 ∧ clear y.o0 y.o1 y.i = true
theorem body38 (y : Z38) (h : I38 y) (K : Ex → St → Option D) : exec Tryz.prog G0 (tabOf [(99, getS), (81, setS)]) (fun _ => []) (fun _ => none) 50 c38 (Y38 y) (fun e st => K e (canon keep38 st)) =
  if go38 y = true then K .normal (Y38 (next38 y)) else if (fun (_ : Z38) => false) y = true then K .ret (Y38 y) else K (.exit 0) (Y38 y) := by
 obtain ⟨hl, hi, hc⟩ := h
 refine (nf38 y.a0 y.a1 y.r0 y.r1 y.o0 y.o1 y.l y.i K).trans ?_
 have e16 : BitVec.ofInt 8 16 = 16#8 := rfl
 have z8 : (0 : BitVec 8) = 0#8 := rfl
 simp only [e16, z8, Int.toNat_natCast, hl]
 unfold go38
 by_cases h : y.i < 16
 ·have h1 : (y.i : Int) < 16 := by omega
  have h2 : (0 : Int) ≤ (y.i : Int) := by omega
  have hw : IntKind.i64.wrap ((y.i : Int) + 1) = ((y.i + 1 : Nat) : Int) := by rw [wrap_i64 (by omega) (by omega)]; rfl
  simp only [h, h1, h2, decide_true, if_true, and_self, hw]
  by_cases h3 : y.l.getD y.i 0#8 < 16#8
  ·simp only [h3, decide_true, if_true, next38, qk]
   rfl
  ·have hq : qk y.a0 y.a1 (y.l.getD y.i 0#8) = getF y.o0 y.o1 8 y.i := by rw [clear_at hc h (Nat.le_refl _)]; simp only [qk, h3, if_false]
   have hs := set_get (w := 8) (by decide) (k := y.i) (by rw [show (128 : Int) / 8 = 16 from by decide]; exact h1) y.o0 y.o1
   have hn : next38 y = { y with i := y.i + 1 } := by simp only [next38, hq, hs]
   simp only [h3, decide_false, if_false, Bool.false_eq_true, hn]
   rfl
 ·have h1 : ¬ (y.i : Int) < 16 := by omega
  simp only [h, h1, decide_false, Bool.false_eq_true, if_false]
  rfl
theorem inv38 (y : Z38) (h : I38 y) (hg : go38 y = true) : I38 (next38 y) := by
 obtain ⟨hl, hi, hc⟩ := h
 have hg : y.i < 16 := of_decide_eq_true hg
 refine ⟨hl, by show y.i + 1 ≤ 16; omega, List.all_eq_true.2 fun k hk => ?_⟩
 have hk := List.mem_range.1 hk
 simp only [Bool.or_eq_true, decide_eq_true_eq, beq_iff_eq]
 rcases Nat.lt_or_ge k (y.i + 1) with h | h
 ·exact .inl h
 ·refine .inr ?_
  show getF (setF y.o0 y.o1 8 y.i _).1 (setF y.o0 y.o1 8 y.i _).2 8 k = 0#64
  rw [get_set (okI8 hg) (by exact hk) y.o0 y.o1 (qk_le _ _ _), if_neg (by omega)]
  exact clear_at hc hk (by omega)
theorem m38 (y : Z38) (h : go38 y = true) : 16 - y.i = 16 - (next38 y).i + 1 := by
 have hg : y.i < 16 := of_decide_eq_true h
 show 16 - y.i = 16 - (y.i + 1) + 1
 omega
noncomputable abbrev sum38 : LoopF := sumG keep38 parse38 (fun _ => false) .ret (fun y => Y38 y) (.exit 0) (fun y => Y38 y) (fun y => iter (go38) (next38) ((fun y => 16 - y.i) y) y)
theorem sem38 : SemOK Tryz.prog G0 c38 sum38 := by
 refine SemOK.count (sp := tabOf [(99, getS), (81, setS)]) (ann := fun _ => []) (ls := fun _ => none) (TableOK.cons get41 (TableOK.cons set43 TableOK.nil)) mixed 50 LsOK.none Y38 _ _ (by simp [Ex.out]) _ _ (by simp [Ex.out]) _ keep38 parse38 (go38) (next38) I38 inv38 body38 (fun y => 16 - y.i) m38 ?_
 intro st y hx
 unfold parse38 at hx
 split at hx
 ·rename_i t a0 a1 r0 r1 o0 o1
  split at hx
  ·rename_i l i h2 h4 h5 h9 h10
   simp only [Option.some.injEq, Prod.mk.injEq, decide_eq_true_eq] at hx
   obtain ⟨⟨g1, g2⟩, rfl⟩ := hx
   refine ⟨g2, fun w0 L' a w hrel => ?_⟩
   exact Rel.pick hrel g1 fun x hx => by
    simp only [List.mem_cons, List.not_mem_nil, or_false] at hx
    rcases hx with rfl | rfl | rfl | rfl | rfl
    ·exact h2
    ·exact h4
    ·exact h5
    ·exact h9
    ·exact h10
  ·cases hx
 ·cases hx
noncomputable def ls38 : Nat → Option LoopF := lsOf [(3, sum38)]
theorem loops38 : LsOK Tryz.prog G0 ls38 (Tryz.f111.body.getD .skip) := by
 refine LsOK.of (of_decide_eq_true (by kernel_rfl)) fun x hx => ?_
 simp only [List.mem_cons, List.not_mem_nil, or_false] at hx
 subst hx
 exact sem38
theorem run38 (k : Nat) : ∀ y : Z38, (run next38 k y).i = y.i + k := by
 induction k with
 | zero => intro y; rfl
 | succ k ih => intro y; rw [run, ih (next38 y)]; show y.i + 1 + k = _; omega
theorem fin38 (y : Z38) (h0 : y.i = 0) : iter go38 next38 (16 - y.i) y = run next38 16 y := by
 rw [h0]
 refine iter_run _ _ fun k hk => ?_
 simp only [go38, run38, h0, Nat.zero_add, decide_eq_true_eq]
 exact hk
def sq0 (a0 a1 : BitVec 64) (l : List (BitVec 8)) (k : Nat) : BitVec 8 := bt (qk a0 a1 (l.getD k 0#8)) 0
def sqLo (a0 a1 : BitVec 64) (l : List (BitVec 8)) : BitVec 64 := w8 (sq0 a0 a1 l 0) (sq0 a0 a1 l 1) (sq0 a0 a1 l 2) (sq0 a0 a1 l 3) (sq0 a0 a1 l 4) (sq0 a0 a1 l 5) (sq0 a0 a1 l 6) (sq0 a0 a1 l 7)
def sqHi (a0 a1 : BitVec 64) (l : List (BitVec 8)) : BitVec 64 := w8 (sq0 a0 a1 l 8) (sq0 a0 a1 l 9) (sq0 a0 a1 l 10) (sq0 a0 a1 l 11) (sq0 a0 a1 l 12) (sq0 a0 a1 l 13) (sq0 a0 a1 l 14) (sq0 a0 a1 l 15)
noncomputable def SwizS : Ev.Spec := joined fun
 | [.agg [.u64 a0, .u64 a1], .agg [.u64 b0, .u64 b1]] => some (vec (sqLo a0 a1 (bytesF b0 b1)) (sqHi a0 a1 (bytesF b0 b1)))
 | _ => none
theorem route_qk (a0 a1 : BitVec 64) (c0 c1 c2 c3 c4 c5 c6 c7 : BitVec 8) : put (put (put (put (put (put (put (put 0#64 (maskF 8) 0 (qk a0 a1 c0)) (maskF 8) 8 (qk a0 a1 c1)) (maskF 8) 16 (qk a0 a1 c2)) (maskF 8) 24 (qk a0 a1 c3)) (maskF 8) 32 (qk a0 a1 c4)) (maskF 8) 40 (qk a0 a1 c5)) (maskF 8) 48 (qk a0 a1 c6)) (maskF 8) 56 (qk a0 a1 c7) = w8 (bt (qk a0 a1 c0) 0) (bt (qk a0 a1 c1) 0) (bt (qk a0 a1 c2) 0) (bt (qk a0 a1 c3) 0) (bt (qk a0 a1 c4) 0) (bt (qk a0 a1 c5) 0) (bt (qk a0 a1 c6) 0) (bt (qk a0 a1 c7) 0) := by
 have := route8' (qk a0 a1 c0) (qk a0 a1 c1) (qk a0 a1 c2) (qk a0 a1 c3) (qk a0 a1 c4) (qk a0 a1 c5) (qk a0 a1 c6) (qk a0 a1 c7)
 simp only [← qk_fit] at this
 exact this
theorem res38 (a0 a1 r0 r1 : BitVec 64) (l : List (BitVec 8)) (hl : l.length = 16) : (run next38 16 ⟨a0, a1, r0, r1, 0#64, 0#64, l, 0⟩).o0 = sqLo a0 a1 l ∧ (run next38 16 ⟨a0, a1, r0, r1, 0#64, 0#64, l, 0⟩).o1 = sqHi a0 a1 l := by
 obtain ⟨c0, l0, rfl, h0⟩ := len_cons hl
 obtain ⟨c1, l1, rfl, h1⟩ := len_cons h0
 obtain ⟨c2, l2, rfl, h2⟩ := len_cons h1
 obtain ⟨c3, l3, rfl, h3⟩ := len_cons h2
 obtain ⟨c4, l4, rfl, h4⟩ := len_cons h3
 obtain ⟨c5, l5, rfl, h5⟩ := len_cons h4
 obtain ⟨c6, l6, rfl, h6⟩ := len_cons h5
 obtain ⟨c7, l7, rfl, h7⟩ := len_cons h6
 obtain ⟨c8, l8, rfl, h8⟩ := len_cons h7
 obtain ⟨c9, l9, rfl, h9⟩ := len_cons h8
 obtain ⟨c10, l10, rfl, h10⟩ := len_cons h9
 obtain ⟨c11, l11, rfl, h11⟩ := len_cons h10
 obtain ⟨c12, l12, rfl, h12⟩ := len_cons h11
 obtain ⟨c13, l13, rfl, h13⟩ := len_cons h12
 obtain ⟨c14, l14, rfl, h14⟩ := len_cons h13
 obtain ⟨c15, l15, rfl, h15⟩ := len_cons h14
 obtain rfl := len_nil h15
 have e0 : (run next38 16 ⟨a0, a1, r0, r1, 0#64, 0#64, [c0, c1, c2, c3, c4, c5, c6, c7, c8, c9, c10, c11, c12, c13, c14, c15], 0⟩).o0 = put (put (put (put (put (put (put (put 0#64 (maskF 8) 0 (qk a0 a1 c0)) (maskF 8) 8 (qk a0 a1 c1)) (maskF 8) 16 (qk a0 a1 c2)) (maskF 8) 24 (qk a0 a1 c3)) (maskF 8) 32 (qk a0 a1 c4)) (maskF 8) 40 (qk a0 a1 c5)) (maskF 8) 48 (qk a0 a1 c6)) (maskF 8) 56 (qk a0 a1 c7) := by kernel_rfl
 have e1 : (run next38 16 ⟨a0, a1, r0, r1, 0#64, 0#64, [c0, c1, c2, c3, c4, c5, c6, c7, c8, c9, c10, c11, c12, c13, c14, c15], 0⟩).o1 = put (put (put (put (put (put (put (put 0#64 (maskF 8) 0 (qk a0 a1 c8)) (maskF 8) 8 (qk a0 a1 c9)) (maskF 8) 16 (qk a0 a1 c10)) (maskF 8) 24 (qk a0 a1 c11)) (maskF 8) 32 (qk a0 a1 c12)) (maskF 8) 40 (qk a0 a1 c13)) (maskF 8) 48 (qk a0 a1 c14)) (maskF 8) 56 (qk a0 a1 c15) := by kernel_rfl
 exact ⟨e0.trans (route_qk _ _ _ _ _ _ _ _ _ _), e1.trans (route_qk _ _ _ _ _ _ _ _ _ _)⟩
theorem clear0 : clear 0#64 0#64 0 = true := by decide
theorem law38 (a0 a1 b0 b1 : BitVec 64) : execFnL Tryz.prog G0 (tabOf [(203, bytesS)]) (fun _ => []) ls38 Tryz.f111 50 [vec a0 a1, vec b0 b1] some =
 if decide (25 = 25 ∧ ((bytesF b0 b1).length = 16 ∧ 0 ≤ 16 ∧ clear 0#64 0#64 0 = true)) = true then some (vec (iter go38 next38 (16 - 0) ⟨a0, a1, 0#64, 0#64, 0#64, 0#64, bytesF b0 b1, 0⟩).o0 (iter go38 next38 (16 - 0) ⟨a0, a1, 0#64, 0#64, 0#64, 0#64, bytesF b0 b1, 0⟩).o1)
 else none := by kernel_rfl
theorem Swiz38 : Snd 111 SwizS := by
 refine Sound.join (execFnL_sound (ann := fun _ => []) (ls := ls38) (TableOK.cons bytes24 TableOK.nil) mixed Tryz.func111 (by kernel_rfl) 50 (fun c hc => by
  have e : c = Tryz.f111.body.getD .skip := by rw [hc]; rfl
  rw [e]; exact loops38)) fun ds d h => ?_
 split at h
 ·rename_i a0 a1 b0 b1
  cases h
  refine (law38 a0 a1 b0 b1).trans ?_
  rw [if_pos (by simp [bytesF, clear0])]
  have e := fin38 ⟨a0, a1, 0#64, 0#64, 0#64, 0#64, bytesF b0 b1, 0⟩ rfl
  dsimp only at e
  obtain ⟨e0, e1⟩ := res38 a0 a1 0#64 0#64 (bytesF b0 b1) rfl
  rw [e, e0, e1]
 ·cases h
end Go.L23

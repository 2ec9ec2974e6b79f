/-
  PROVED HERE: FloatsSigns, for every input: the sign turned twice is as it was; without its sign a float is what it is with the sign of 0. No conditions beyond the row's own.
-/
import Derived.Test.YtieeafjcnomakaaF04w
import Derived.Test.YtieeafjcnomakaaF04r
import Derived.Test.YtieeafjcnomakaaF04v
set_option linter.unusedSimpArgs false
set_option linter.unusedVariables false
namespace Go.L04
open Go.Ev Go.Proofs Go.RowKit Go.Wh Go.Fl

def gT (g : Bool) (x : Option D) : Option D := if g = true then x else none
def sgnT (g1 g2 g3 g4 g5 e1 e2 e3 e4 e5 e6 e7 : Bool) : Option D := gT g1 (gT g2 (gT g3 (if (!e1) = false then gT g4 (if (!e2) = false then (if (!e3) = false then (if (!e4) = false then (if e5 = true then some (.bool false) else (if e6 = true then gT g5 (if e7 = true then some (.bool true) else some (.bool false)) else some (.bool false))) else some (.bool false)) else some (.bool false)) else some (.bool false)) else some (.bool false))))
theorem nf8 (W : BitVec 8 → Int) (O : Int → BitVec 64 → BitVec 64) (V : WV) (C : BitVec 8 → Int → BitVec 64 → Bool) (R : BitVec 8 → Int → BitVec 64 → BitVec 64) (n : BitVec 8) (a b : BitVec 64) : ex [(20, widG W), (21, lofG O), (23, twBG V), (27, onBG C R), (15, worksS)] (fun _ => []) Try.f8 [.u8 n, .u64 a, .u64 b] some =
  sgnT (C 10#8 (W n) (O (W n) a)) (C 11#8 (W n) (O (W n) a)) (C 11#8 (W n) (R 11#8 (W n) (O (W n) a))) (C 10#8 (W n) (R 11#8 (W n) (O (W n) a))) (C 10#8 (W n) (V 7#8 (W n) (O (W n) a) (O (W n) b)))
    (R 11#8 (W n) (R 11#8 (W n) (O (W n) a)) == O (W n) a) (R 10#8 (W n) (R 11#8 (W n) (O (W n) a)) == R 10#8 (W n) (O (W n) a)) (V 7#8 (W n) (O (W n) a) 0#64 == R 10#8 (W n) (O (W n) a))
    (R 10#8 (W n) (O (W n) a) >>> (BitVec.ofInt 64 (IntKind.i64.wrap (W n - 1))).toNat == 0#64) (R 11#8 (W n) (O (W n) a) == O (W n) a)
    (V 7#8 (W n) (O (W n) a) (O (W n) b) >>> (BitVec.ofInt 64 (IntKind.i64.wrap (W n - 1))).toNat == O (W n) b >>> (BitVec.ofInt 64 (IntKind.i64.wrap (W n - 1))).toNat)
    (R 10#8 (W n) (V 7#8 (W n) (O (W n) a) (O (W n) b)) == R 10#8 (W n) (O (W n) a)) := by kernel_rfl
theorem tw_cs {w : Int} {a b : BitVec 64} (ha : inF w a = true) (hb : inF w b = true) : ftwV 7#8 w a b = a &&& ~~~(sgW w) ||| b &&& sgW w := by
  unfold ftwV
  rw [ma_in ha hb, if_pos rfl]; rfl
theorem sgnT_ok (g1 g2 g3 g4 g5 e1 e2 e3 e4 e5 e6 e7 : Bool) (h1 : g1 = true) (h2 : g2 = true) (h3 : g3 = true) (h4 : g4 = true) (h5 : g5 = true) (k1 : e1 = true) (k2 : e2 = true) (k3 : e3 = true) (k4 : e4 = true) (k5 : e5 = false) (k6 : e6 = true) (k7 : e7 = true) :
    sgnT g1 g2 g3 g4 g5 e1 e2 e3 e4 e5 e6 e7 = some (.bool true) := by subst h1 h2 h3 h4 h5 k1 k2 k3 k4 k5 k6 k7; rfl
theorem in_cs {w : Int} {a b : BitVec 64} (ha : inF w a = true) (hb : inF w b = true) : inF w (a &&& ~~~(sgW w) ||| b &&& sgW w) = true := by
  have hw := in_ok ha
  obtain ⟨k, hk, hs, hf, _⟩ := sg_pow hw
  have la := in_lt ha
  have lb := in_lt hb
  rw [in_iff hw]
  rw [hf, show 2 * 2 ^ k = 2 ^ (k + 1) by rw [Nat.pow_succ]; omega] at la lb ⊢
  refine lt_of_bits fun i h1 h2 => ?_
  rw [BitVec.getLsbD_or, BitVec.getLsbD_and, BitVec.getLsbD_and, hi_zero la h1, hi_zero lb h1]; rfl
theorem cs_clr (a b s : BitVec 64) : (a &&& ~~~s ||| b &&& s) &&& ~~~s = a &&& ~~~s := by
  apply BitVec.eq_of_getLsbD_eq
  intro i hi
  simp only [BitVec.getLsbD_and, BitVec.getLsbD_or, BitVec.getLsbD_not, hi, decide_true, Bool.true_and]
  cases a.getLsbD i <;> cases s.getLsbD i <;> cases b.getLsbD i <;> rfl
theorem cs_hi {w : Int} {a b : BitVec 64} (ha : inF w a = true) (hb : inF w b = true) : (a &&& ~~~(sgW w) ||| b &&& sgW w) >>> (BitVec.ofInt 64 (IntKind.i64.wrap (w - 1))).toNat = b >>> (BitVec.ofInt 64 (IntKind.i64.wrap (w - 1))).toNat := by
  have hw := in_ok ha
  obtain ⟨k, hk, hs, hf, he⟩ := sg_pow hw
  have la := in_lt ha
  have lb := in_lt hb
  rw [hf, show 2 * 2 ^ k = 2 ^ (k + 1) by rw [Nat.pow_succ]; omega] at la lb
  rw [he, hs]
  apply BitVec.eq_of_getLsbD_eq
  intro i hi
  rw [BitVec.getLsbD_ushiftRight, BitVec.getLsbD_ushiftRight, BitVec.getLsbD_or, BitVec.getLsbD_and, BitVec.getLsbD_and, BitVec.getLsbD_not, BitVec.getLsbD_twoPow]
  rcases Nat.eq_zero_or_pos i with h0 | h0
  · subst h0
    simp [hk]
  · rw [hi_zero la (by omega : k < k + i), hi_zero lb (by omega : k < k + i)]; simp
theorem abs_hi {w : Int} {a : BitVec 64} (ha : inF w a = true) : (a &&& ~~~(sgW w)) >>> (BitVec.ofInt 64 (IntKind.i64.wrap (w - 1))).toNat = 0#64 := by
  have h := cs_hi (b := 0#64) ha (by
    have hw := in_ok ha
    rw [in_iff hw]
    obtain ⟨k, hk, hs, hf, he⟩ := sg_pow hw
    rw [hf]
    show 0 < _
    have := Fl.two_pos k
    omega)
  rw [BitVec.zero_and, BitVec.or_zero] at h
  rw [h, BitVec.zero_ushiftRight]

theorem floatsSigns_s : Snd 8 (trueS fun | [.u8 _, .u64 _, .u64 _] => true | _ => false) := by
  refine Sound.guard (execFn_sound (ann := fun _ => []) (TableOK.cons t_wid (TableOK.cons t_lof (TableOK.cons l_two (TableOK.cons l_sgn (TableOK.cons s_works TableOK.nil))))) mixed Try.func8 (by kernel_rfl) 50) fun ds d h => ?_
  simp only [Option.some.injEq, Prod.mk.injEq] at h
  obtain ⟨h, rfl⟩ := h
  split at h
  · rename_i n a b
    refine (nf8 _ _ _ _ _ n a b).trans ?_
    have ia := in_wl n a
    have ib := in_wl n b
    have hw := ok_wid n
    generalize lofF (widF n) a = x at ia ⊢
    generalize lofF (widF n) b = y at ib ⊢
    generalize widF n = w at ia ib hw ⊢
    have ix := in_xor ia
    have i0 : inF w 0#64 = true := by rcases wOK_cases hw with rfl | rfl <;> rfl
    have e11 : ∀ z, sgV 11#8 w z = z ^^^ sgW w := fun z => rfl
    have e10 : ∀ z, sgV 10#8 w z = z &&& ~~~(sgW w) := fun z => rfl
    have g11 : ∀ z, inF w z = true → sgO 11#8 w z = true := fun z hz => by unfold sgO; rw [hz]; rfl
    have g10 : ∀ z, inF w z = true → sgO 10#8 w z = true := fun z hz => by unfold sgO; rw [hz]; rfl
    rw [tw_cs ia ib, tw_cs ia i0]
    simp only [e11, e10]
    refine sgnT_ok _ _ _ _ _ _ _ _ _ _ _ _ (g10 _ ia) (g11 _ ia) (g11 _ ix) (g10 _ ix) (g10 _ (in_cs ia ib)) ?_ ?_ ?_ ?_ ?_ ?_ ?_
    · rw [xor_twice]; exact beq_self_eq_true _
    · rw [xor_clr]; exact beq_self_eq_true _
    · rw [BitVec.zero_and, BitVec.or_zero]; exact beq_self_eq_true _
    · rw [abs_hi ia]; exact beq_self_eq_true _
    · have hne : x ^^^ sgW w ≠ x := by
        intro h
        have h2 := ng_xor ia
        rw [h] at h2
        cases hq : ng (fmW w) x.toNat <;> rw [hq] at h2 <;> cases h2
      simpa using hne
    · rw [cs_hi ia ib]; exact beq_self_eq_true _
    · rw [cs_clr]; exact beq_self_eq_true _
  · cases h

end Go.L04
namespace Go.Proofs.Ytieeafjcnomakaa.floatsSigns
open Go Go.L04 Go.Ev Go.RowKit Go.ChangeShapes Go.WideShapes Go.ChangeAt
set_option maxRecDepth 100000 in
theorem lifted (os : Os) (started : os.Started) (H : Type) (enc : TypeId × Value → H) :
    ReturnsInHanded {} Try.checked os 8 .any (Rows.floatsSignsSpec.pre6 enc Try.prog Try.f8 Rows.floatsSignsRow.domain false) (Rows.floatsSignsSpec.post enc Try.prog Try.f8 false true false false) := by
  refine returnsInHanded_of_change (C := Try.checked) own started (by kernel_rfl) Try.func8
    (ChangeSpec.witness6 (enc := enc) (C := Try.checked) false ⟨#[], #[.int .u8 0, .int .u64 0, .int .u64 0], []⟩ 8 (by kernel_rfl) (by kernel_rfl) (by kernel_rfl) (by kernel_rfl)) ?_
  intro W base args ds gs before hval0 hW _ _
  have hval : ∀ (j : Nat) t v, Try.f8.params[j]? = some t → args[j]? = some v → Value.okWide Try.prog W .any base t v := hval0
  have hW' := hW
  obtain ⟨p, q, hA0, hV, rfl, hfz, hnd⟩ := hW
  have hA : DataW.TrodAll enc Try.prog W 0 (fun _ => true) true Try.f8.params.toList args.toList ds p := hA0
  rw [Try.params8] at hA hval
  obtain ⟨v0, vs0, d0, ds0, p0, q0, hargs, rfl, rfl, h0, r0⟩ := trodAll_cons hA
  obtain ⟨v1, vs1, d1, ds1, p1, q1, rfl, rfl, rfl, h1, r1⟩ := trodAll_cons r0
  obtain ⟨v2, vs2, d2, ds2, p2, q2, rfl, rfl, rfl, h2, r2⟩ := trodAll_cons r1
  obtain ⟨rfl, rfl, rfl⟩ := trodAll_nil r2
  obtain rfl : args = #[v0, v1, v2] := by cases args; simp_all
  obtain ⟨x0, l0⟩ := arg_u8 (own := none) Try.underlying5 (hval 0 5 v0 rfl rfl) h0
  obtain ⟨x1, l1⟩ := arg_u64 (own := none) Try.underlying23 (hval 1 23 v1 rfl rfl) h1
  obtain ⟨x2, l2⟩ := arg_u64 (own := none) Try.underlying23 (hval 2 23 v2 rfl rfl) h2
  refine (call_true floatsSigns_s (ds := [.u8 x0, .u64 x1, .u64 x2]) rfl (by simp only [lie]; exact ⟨_, _, rfl, l0, _, _, rfl, l1, _, _, rfl, l2, rfl⟩) (by kernel_rfl)).mono fun e W' ⟨he, hb⟩ => ?_
  subst he
  exact ⟨_, rfl, post_law hW' hb laidOut (by kernel_rfl) rfl (by kernel_rfl) Try.underlying4 rfl⟩
end Go.Proofs.Ytieeafjcnomakaa.floatsSigns
namespace Go.Proofs.Ytieeafjcnomakaa
open Go

theorem floatsSigns_holds : Rows.FloatsSignsSaid :=
  OpenClaim.holds_of_wide 8 Try.f8 rfl rfl rfl rfl rfl rfl rfl ⟨rfl, rfl, rfl, rfl, rfl⟩ rfl rfl rfl rfl rfl (by kernel_rfl) Try.func8 (by kernel_rfl)
    (of_decide_eq_true (by kernel_rfl)) (by unfold Func.isWrapper; first | (rw [if_pos (by decide +kernel)]; kernel_rfl) | (rw [if_neg (by decide +kernel)]; exact ⟨rfl, rfl⟩))
    (fun os started H enc _ => floatsSigns.lifted os started H enc)
#print axioms floatsSigns_holds
end Go.Proofs.Ytieeafjcnomakaa

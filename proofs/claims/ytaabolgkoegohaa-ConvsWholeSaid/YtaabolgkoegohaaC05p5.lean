/-
  PROVED HERE: ConvsWhole, for every input: a whole number of up to 53 bits that is made a float of 64, and cut, is itself. No conditions beyond the row's own.
-/
import Derived.Test.YtaabolgkoegohaaC05g
import Derived.Test.YtaabolgkoegohaaC05r
set_option linter.unusedSimpArgs false
set_option linter.unusedVariables false
namespace Go.L05
open Go.Ev Go.Proofs Go.RowKit Go.Wh Go.Fl

abbrev VC := Int → Int → Bool → BitVec 64 → BitVec 64
abbrev EC := Int → Int → Bool → BitVec 64 → Int
noncomputable def CG (V : VC) (E : EC) : Ev.Spec := joined fun | [.i .i64 f, .i .i64 t, .bool s, .u64 a] => some (.tup [.u64 (V f t s a), .i .i64 (E f t s a)]) | _ => none
abbrev cV : VC := fun f t s a => ifF (mayC f t a && fitV f t s a) (hldV f t s a)
abbrev cE : EC := fun f t s a => if mayC f t a = true then (if fitV f t s a = true then 0 else 6) else 2
abbrev hV : VC := fun f t s a => ifF (mayC f t a) (hldV f t s a)
abbrev hE : EC := fun f t _ a => errF (mayC f t a)
theorem g17 : Snd 17 (CG cV cE) := t_Cut
theorem g19 : Snd 19 (CG hV hE) := t_Held

abbrev fV : VC := fun f t s a => ifF (mayC f t a) (fltV t (intV f s a))
theorem g15 : Snd 15 (CG fV hE) := t_Float
def whL (e0 e1 v n0 x e2 v2 e3 : Bool) : Option D := if (!e0) = false then if (!e1) = false then if (!v) = true then some (.bool false) else if n0 = true then some (.bool true) else if x = true then if e2 = true then if v2 = true then if e3 = true then some (.bool true) else some (.bool false) else some (.bool false) else some (.bool false) else some (.bool false) else some (.bool false) else some (.bool false)
def h11 (n : Int) : Int := n / 2 ^ min (BitVec.ofInt 64 11).toNat IntKind.i64.bits
theorem nf5 (V : VC) (E : EC) (V2 : VC) (E2 : EC) (n : Int) : ex [(15, CG V E), (17, CG V2 E2), (14, worksS)] (fun _ => []) Try.f5 [.i .i64 n] some =
  whL (E 64 64 true (BitVec.ofInt 64 (h11 n)) == 0) (E2 64 64 true (V 64 64 true (BitVec.ofInt 64 (h11 n))) == 0) (V2 64 64 true (V 64 64 true (BitVec.ofInt 64 (h11 n))) == BitVec.ofInt 64 (h11 n)) (decide (h11 n < 0)) (V 64 64 false (BitVec.ofInt 64 (h11 n)) == V 64 64 true (BitVec.ofInt 64 (h11 n)))
    (E 64 64 false (BitVec.ofInt 64 (h11 n)) == 0) (V2 64 64 false (V 64 64 false (BitVec.ofInt 64 (h11 n))) == BitVec.ofInt 64 (h11 n)) (E2 64 64 false (V 64 64 false (BitVec.ofInt 64 (h11 n))) == 0) := by kernel_rfl
/-- A whole number of 53 bits is had exactly. -/
theorem flt_exact {n : Int} (h0 : -4503599627370496 ≤ n) (h1 : n < 4503599627370496) : fin Ieee.double (fltV 64 n).toNat = true ∧ ng Ieee.double (fltV 64 n).toNat = decide (n < 0) ∧ wh Ieee.double (fltV 64 n).toNat = n.natAbs := by
  have hld : Ieee.double.leastPlace = -1074 := double_least
  have hBd : Ieee.double.binade = 4503599627370496 := by decide
  have hfd : (Ieee.double.fractionBits : Int) = 52 := rfl
  have hlog : n.natAbs.log2 ≤ 52 := by
    by_cases h0 : n.natAbs = 0
    · rw [h0]; decide
    · have : n.natAbs.log2 < 53 := (Nat.log2_lt h0).2 (by omega)
      omega
  obtain ⟨r, r1, r2⟩ := has_exact Ieee.double (by rw [hld]; omega) (by decide) (m := n.natAbs) (p := 0) (by omega) (by rw [hld]; omega)
    (by rw [hld, hfd, show ((2 ^ Ieee.double.exponentBits - 1 : Nat) : Int) = 2047 from by decide]; omega)
  have e := nearest_exact Ieee.double (by rw [hld]; omega) (decide (n < 0)) (m := n.natAbs) (p := 0) (by omega) r1 r2
  obtain ⟨a1, a2, a3⟩ := wo_word Ieee.double (decide (n < 0)) r1
  have ev : (fltV 64 n).toNat = Ieee.double.word (decide (n < 0)) r := by
    unfold fltV
    rw [BitVec.toNat_ofNat]
    show Ieee.double.nearest _ _ _ % 2 ^ 64 = _
    rw [e, Nat.mod_eq_of_lt]
    exact word_lt Ieee.double _ (Nat.lt_trans r1 (inf_lt Ieee.double))
  rw [ev]
  refine ⟨a1, a2, ?_⟩
  unfold wh
  rw [wo_val two_d a3, ← r2, sc_int, Nat.mul_div_cancel _ U_pos]
theorem cut_exact64 {n : Int} (h0 : -4503599627370496 ≤ n) (h1 : n < 4503599627370496) {s : Bool} (hs : s = true ∨ 0 ≤ n) : cE 64 64 s (fltV 64 n) = 0 ∧ cV 64 64 s (fltV 64 n) = BitVec.ofInt 64 n := by
  obtain ⟨a1, a2, a3⟩ := flt_exact h0 h1
  have hm : mayC 64 64 (fltV 64 n) = true := by unfold mayC fitC; rfl
  have hk : fitV 64 64 s (fltV 64 n) = true := by
    unfold fitV
    rw [show finW 64 (fltV 64 n) = true from a1, Bool.true_and]
    refine decide_eq_true ?_
    show wh Ieee.double _ ≤ bnd 64 s (ng Ieee.double _)
    rw [a3, a2]
    unfold bnd
    rcases hs with rfl | hs
    · rw [if_pos rfl]
      split
      · rw [if_neg (by decide)]; omega
      · rw [if_neg (by decide)]; omega
    · have : decide (n < 0) = false := decide_eq_false (by omega)
      rw [this]
      cases s
      · simp; omega
      · simp; omega
  have hn : isNW 64 (fltV 64 n) = false := fin_notN (f := Ieee.double) a1
  refine ⟨by unfold cE; rw [hm, hk]; rfl, ?_⟩
  unfold cV hldV
  rw [hm, hk, hn]
  show numV 64 (ng Ieee.double _) (BitVec.ofNat 64 (wh Ieee.double _)) = _
  rw [a2, a3]
  unfold numV
  by_cases hneg : n < 0
  · rw [if_pos (decide_eq_true hneg), maskF64]
    apply BitVec.eq_of_toNat_eq
    rw [BitVec.toNat_and, BitVec.toNat_sub, BitVec.toNat_ofNat, BitVec.toNat_ofInt]
    show (2 ^ 64 - n.natAbs % 2 ^ 64 + 0) % 2 ^ 64 &&& 2 ^ 64 - 1 = _
    rw [Nat.and_two_pow_sub_one_eq_mod]
    omega
  · rw [if_neg (by simpa using hneg)]
    apply BitVec.eq_of_toNat_eq
    rw [BitVec.toNat_ofNat, BitVec.toNat_ofInt]
    omega
theorem sgn64 {n : Int} (h0 : -4503599627370496 ≤ n) (h1 : n < 4503599627370496) : sgnF 64 (BitVec.ofInt 64 n) = n := by
  show (if 2 * ((BitVec.ofInt 64 n).toNat : Int) < 18446744073709551616 then ((BitVec.ofInt 64 n).toNat : Int) else ((BitVec.ofInt 64 n).toNat : Int) - 18446744073709551616) = n
  rw [BitVec.toNat_ofInt]
  split <;> omega
theorem whole5 : Snd 5 (trueS fun | [.i .i64 n] => decide (-9223372036854775808 ≤ n ∧ n < 9223372036854775808) | _ => false) := by
  refine Sound.guard (execFn_sound (ann := fun _ => []) (TableOK.cons g15 (TableOK.cons g17 (TableOK.cons t_works TableOK.nil))) mixed Try.func5 (by kernel_rfl) 50) fun ds d h => ?_
  simp only [Option.some.injEq, Prod.mk.injEq] at h
  obtain ⟨h, rfl⟩ := h
  split at h
  · rename_i n
    have hb := of_decide_eq_true h
    refine (nf5 fV hE cV cE n).trans ?_
    have hd : h11 n = n / 2048 := rfl
    have h0 : -4503599627370496 ≤ h11 n := by rw [hd]; omega
    have h1 : h11 n < 4503599627370496 := by rw [hd]; omega
    revert h0 h1
    generalize h11 n = k
    intro h0 h1
    have hm : ∀ a, mayC 64 64 a = true := fun a => by unfold mayC fitC; rfl
    have f1 : fV 64 64 true (BitVec.ofInt 64 k) = fltV 64 k := by
      unfold fV
      rw [hm, intT, sgn64 h0 h1]; rfl
    have x1 : ∀ s a, hE 64 64 s a = 0 := fun s a => by unfold hE; rw [hm]; rfl
    obtain ⟨c1, c2⟩ := cut_exact64 h0 h1 (s := true) (.inl rfl)
    simp only [x1]
    rw [f1, c1, c2, show (BitVec.ofInt 64 k == BitVec.ofInt 64 k) = true from beq_self_eq_true _]
    by_cases hn : k < 0
    · rw [decide_eq_true hn]; rfl
    · have f2 : fV 64 64 false (BitVec.ofInt 64 k) = fltV 64 k := by
        unfold fV
        rw [hm, intF]
        have : ((BitVec.ofInt 64 k).toNat : Int) = k := by rw [BitVec.toNat_ofInt]; omega
        rw [this]; rfl
      obtain ⟨c3, c4⟩ := cut_exact64 h0 h1 (s := false) (.inr (by omega))
      rw [f2, c3, c4, show (BitVec.ofInt 64 k == BitVec.ofInt 64 k) = true from beq_self_eq_true _, show (fltV 64 k == fltV 64 k) = true from beq_self_eq_true _, decide_eq_false hn]; rfl
  · cases h

end Go.L05
namespace Go.Proofs.Ytaabolgkoegohaa.convsWhole
open Go Go.L05 Go.Ev Go.RowKit Go.ChangeShapes Go.WideShapes Go.ChangeAt
set_option maxRecDepth 100000 in
theorem lifted (os : Os) (started : os.Started) (H : Type) (enc : TypeId × Value → H) :
    ReturnsInHanded {} Try.checked os 5 .any (Rows.convsWholeSpec.pre6 enc Try.prog Try.f5 Rows.convsWholeRow.domain false) (Rows.convsWholeSpec.post enc Try.prog Try.f5 false true false false) := by
  refine returnsInHanded_of_change (C := Try.checked) own started (by kernel_rfl) Try.func5
    (ChangeSpec.witness6 (enc := enc) (C := Try.checked) false ⟨#[], #[.int .i64 0], []⟩ 8 (by kernel_rfl) (by kernel_rfl) (by kernel_rfl) (by kernel_rfl)) ?_
  intro W base args ds gs before hval0 hW _ _
  have hval : ∀ (j : Nat) t v, Try.f5.params[j]? = some t → args[j]? = some v → Value.okWide Try.prog W .any base t v := hval0
  have hW' := hW
  obtain ⟨p, q, hA0, hV, rfl, hfz, hnd⟩ := hW
  have hA : DataW.TrodAll enc Try.prog W 0 (fun _ => true) true Try.f5.params.toList args.toList ds p := hA0
  rw [Try.params5] at hA hval
  obtain ⟨v0, vs0, d0, ds0, p0, q0, hargs, rfl, rfl, h0, r0⟩ := trodAll_cons hA
  obtain ⟨rfl, rfl, rfl⟩ := trodAll_nil r0
  obtain rfl : args = #[v0] := by cases args; simp_all
  obtain ⟨n0, l0, w0⟩ := arg_i64 (own := none) Try.underlying2 (hval 0 2 v0 rfl rfl) h0
  refine (call_true whole5 (ds := [.i .i64 n0]) (i64_in w0) (by simp only [lie]; exact ⟨_, _, rfl, l0, rfl⟩) (by kernel_rfl)).mono fun e W' ⟨he, hb⟩ => ?_
  subst he
  exact ⟨_, rfl, post_law hW' hb laidOut (by kernel_rfl) rfl (by kernel_rfl) Try.underlying4 rfl⟩
end Go.Proofs.Ytaabolgkoegohaa.convsWhole
namespace Go.Proofs.Ytaabolgkoegohaa
open Go

theorem convsWhole_holds : Rows.ConvsWholeSaid :=
  OpenClaim.holds_of_wide 5 Try.f5 rfl rfl rfl rfl rfl rfl rfl ⟨rfl, rfl, rfl, rfl, rfl⟩ rfl rfl rfl rfl rfl (by kernel_rfl) Try.func5 (by kernel_rfl)
    (of_decide_eq_true (by kernel_rfl)) (by unfold Func.isWrapper; first | (rw [if_pos (by decide +kernel)]; kernel_rfl) | (rw [if_neg (by decide +kernel)]; exact ⟨rfl, rfl⟩))
    (fun os started H enc _ => convsWhole.lifted os started H enc)
#print axioms convsWhole_holds
end Go.Proofs.Ytaabolgkoegohaa

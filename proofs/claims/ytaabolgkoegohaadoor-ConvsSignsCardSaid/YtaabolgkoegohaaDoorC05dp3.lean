/-
  PROVED HERE: the tied card of ConvsSigns, for every input: a whole number with a sign makes the float of what it is without it, with that sign. No conditions beyond the card's own.
-/
import Derived.Test.YtaabolgkoegohaaDoorC05dh
import Derived.Test.YtaabolgkoegohaaDoorS05dr
import Derived.SevenTiedAt
set_option linter.unusedSimpArgs false
set_option linter.unusedVariables false
namespace Go.L05d
open Go.L05dF Go.Ev Go.Proofs Go.RowKit Go.Wh Go.Fl

theorem nf3 (W : BitVec 8 → Int) (O : Int → BitVec 64 → BitVec 64) (V : VC) (E : EC) (AV : Int → BitVec 64 → BitVec 64) (AE : Int → BitVec 64 → Int) (n m : BitVec 8) (a : BitVec 64) : ex [(5, widG W), (6, lofG O), (7, CG V E), (8, absG AV AE), (9, worksS)] (fun _ => []) Tryd.f3 [.u8 n, .u8 m, .u64 a] some =
  if (!E (W n) (W m) true (O (W n) a) == 0) = false then if (!AE (W n) (O (W n) a) == 0) = false then if (!E (W n) (W m) false (AV (W n) (O (W n) a)) == 0) = true then some (.bool false) else
    if (O (W n) a >>> (BitVec.ofInt 64 (IntKind.i64.wrap (W n - 1))).toNat == 1#64) = true then
      if (V (W n) (W m) true (O (W n) a) == V (W n) (W m) false (AV (W n) (O (W n) a)) ||| 1#64 <<< (BitVec.ofInt 64 (IntKind.i64.wrap (W m - 1))).toNat) = true then some (.bool true) else some (.bool false)
    else if (V (W n) (W m) true (O (W n) a) == V (W n) (W m) false (AV (W n) (O (W n) a))) = true then some (.bool true) else some (.bool false)
  else some (.bool false) else some (.bool false) := by kernel_rfl
theorem top_bit {w : Int} (hw : wOK w = true) {a : BitVec 64} (h : fitF w a = true) : (a >>> (BitVec.ofInt 64 (IntKind.i64.wrap (w - 1))).toNat == 1#64) = decide (sgnF w a < 0) := by
  have h2 := (fitF_nat h).2
  have key : ∀ x : BitVec 64, (x == 1#64) = decide (x.toNat = 1) := fun x => by
    by_cases hx : x.toNat = 1
    · rw [decide_eq_true hx]
      have : x = 1#64 := BitVec.eq_of_toNat_eq hx
      rw [this]; rfl
    · rw [decide_eq_false hx]
      have : x ≠ 1#64 := fun e => hx (by rw [e]; rfl)
      simpa using this
  rw [key, BitVec.toNat_ushiftRight, Nat.shiftRight_eq_div_pow]
  refine decide_eq_decide.2 ?_
  unfold sgnF
  rcases wOK_cases hw with rfl | rfl
  · have e : (BitVec.ofInt 64 (IntKind.i64.wrap (32 - 1))).toNat = 31 := by decide
    have e2 : pw 32 = 4294967296 := by decide
    rw [e, e2]
    rw [e2] at h2
    have e3 : 2 ^ 31 = 2147483648 := by decide
    rw [e3]
    split <;> omega
  · have e : (BitVec.ofInt 64 (IntKind.i64.wrap (64 - 1))).toNat = 63 := by decide
    have e2 : pw 64 = 18446744073709551616 := by decide
    rw [e, e2]
    rw [e2] at h2
    have e3 : 2 ^ 63 = 9223372036854775808 := by decide
    rw [e3]
    split <;> omega
theorem convsSigns_s : Snd 3 (trueS fun | [.u8 _, .u8 _, .u64 _] => true | _ => false) := by
  refine Sound.guard (execFn_sound (ann := fun _ => []) (TableOK.cons t_wid (TableOK.cons t_lof (TableOK.cons g_float (TableOK.cons f_abs (TableOK.cons t_works TableOK.nil))))) mixed Tryd.func3 (by kernel_rfl) 50) fun ds d h => ?_
  simp only [Option.some.injEq, Prod.mk.injEq] at h
  obtain ⟨h, rfl⟩ := h
  split at h
  · rename_i n m a
    refine (nf3 _ _ _ _ _ _ n m a).trans ?_
    have hw := ok_wid n
    have ht := ok_wid m
    have hA : fitF (widF n) (lofF (widF n) a) = true := fit_and hw a
    generalize lofF (widF n) a = A at hA ⊢
    generalize widF n = w at hw hA ⊢
    generalize widF m = t at ht ⊢
    have mA := may_in hA hw ht
    have eA : absE w A = 0 := by unfold absE; rw [may_one hA]; rfl
    have hr := sgn_range hA
    -- the absolute value
    have abs : fitF w (absV w A) = true ∧ ((absV w A).toNat : Int) = (sgnF w A).natAbs := by
      unfold absV
      rw [may_one hA, if_pos rfl]
      by_cases h0 : 0 ≤ sgnF w A
      · rw [if_pos h0]
        refine ⟨hA, ?_⟩
        have h2 := (fitF_nat hA).2
        unfold sgnF at h0 ⊢
        split <;> omega
      · rw [if_neg h0]
        exact ⟨fit_and hw _, congrArg Int.ofNat (neg_nat hA (by omega))⟩
    have mB := may_in abs.1 hw ht
    have e1 : hE w t true A = 0 := by show errF (mayC w t A) = 0; rw [mA]; rfl
    have e2 : hE w t false (absV w A) = 0 := by show errF (mayC w t (absV w A)) = 0; rw [mB]; rfl
    have x1 : fV w t true A = flI t (sgnF w A) := by show ifF (mayC w t A) _ = _; rw [mA, intT]; rfl
    have x2 : fV w t false (absV w A) = flI t ((sgnF w A).natAbs : Int) := by show ifF (mayC w t (absV w A)) _ = _; rw [mB, intF, abs.2]; rfl
    rw [e1, eA, e2, x1, x2, top_bit hw hA, one_sg ht]
    by_cases h0 : sgnF w A < 0
    · rw [decide_eq_true h0, flI_neg ht h0]
      simp
    · rw [decide_eq_false h0]
      have : ((sgnF w A).natAbs : Int) = sgnF w A := by omega
      rw [this]
      simp
  · cases h

end Go.L05d
namespace Go.Proofs.YtaabolgkoegohaaDoor.convsSigns
open Go Go.L05d Go.Ev Go.RowKit Go.ChangeShapes Go.WideShapes Go.ChangeAt
set_option maxRecDepth 100000 in
theorem lifted (os : Os) (started : os.Started) (H : Type) (enc : TypeId × Value → H) :
    ReturnsInHanded {} Tryd.checked os 3 .any (fun w args => (Rows.convsSignsSpec.pre enc Tryd.prog Tryd.f3 [] false w args ∧ laidMetH Tryd.prog laid2 w) ∧ sizedMet enc Tryd.prog Tryd.f3 (OpenSpec.ofChange Rows.convsSignsSpec) false w args)
      (Rows.convsSignsSpec.post enc Tryd.prog Tryd.f3 false true false false) := by
  refine returnsInHanded_of_change_and (C := Tryd.checked) (X := fun w _ => laidMetH Tryd.prog laid2 w) (fun _ _ _ hh h => h.of_heap hh) own started (by kernel_rfl) Tryd.func3
    (ChangeSpec.witness_shaped (enc := enc) (C := Tryd.checked) (os := os) (X := fun w _ => laidMetH Tryd.prog laid2 w) false (World.doorLaid Tryd.prog 19 os) #[.int .u8 0, .int .u8 0, .int .u64 0] 8 rfl (World.shaped_of_RefB (by kernel_rfl) (by kernel_rfl)) (by kernel_rfl) (by kernel_rfl) (by kernel_rfl)
      (door_met os _)) ?_
  intro W base args ds gs before hval0 hW _ hwt hL hsz
  have hval : ∀ (j : Nat) t v, Tryd.f3.params[j]? = some t → args[j]? = some v → Value.okWide Tryd.prog W .any base t v := hval0
  have hW' := hW
  obtain ⟨p, q, hA0, hV, rfl, hfz, hnd⟩ := hW
  have hA : DataW.TrodAll enc Tryd.prog W 0 (fun _ => true) true Tryd.f3.params.toList args.toList ds p := hA0
  rw [Tryd.params3] at hA hval
  obtain ⟨v0, vs0, d0, ds0, p0, q0, hargs, rfl, rfl, h0, r0⟩ := trodAll_cons hA
  obtain ⟨v1, vs1, d1, ds1, p1, q1, rfl, rfl, rfl, h1, r1⟩ := trodAll_cons r0
  obtain ⟨v2, vs2, d2, ds2, p2, q2, rfl, rfl, rfl, h2, r2⟩ := trodAll_cons r1
  obtain ⟨rfl, rfl, rfl⟩ := trodAll_nil r2
  obtain rfl : args = #[v0, v1, v2] := by cases args; simp_all
  obtain ⟨x0, l0⟩ := arg_u8 (own := none) Tryd.underlying5 (hval 0 5 v0 rfl rfl) h0
  obtain ⟨x1, l1⟩ := arg_u8 (own := none) Tryd.underlying5 (hval 1 5 v1 rfl rfl) h1
  obtain ⟨x2, l2⟩ := arg_u64 (own := none) Tryd.underlying22 (hval 2 22 v2 rfl rfl) h2
  refine (call_true convsSigns_s (ds := [.u8 x0, .u8 x1, .u64 x2]) rfl (glob_of_laid hL) (by simp only [lie]; exact ⟨_, _, rfl, l0, _, _, rfl, l1, _, _, rfl, l2, rfl⟩) (by kernel_rfl)).mono fun e W' ⟨he, hb⟩ => ?_
  subst he
  exact ⟨_, rfl, post_law hW' hb laidOut (by kernel_rfl) rfl (by kernel_rfl) Tryd.underlying4 rfl⟩

theorem holds : Rows.ConvsSignsSaid :=
  OpenClaim.holds_of_wide 3 Tryd.f3 rfl rfl rfl rfl rfl rfl rfl ⟨rfl, rfl, rfl, rfl, rfl⟩ rfl rfl rfl rfl rfl (by kernel_rfl) Tryd.func3 (by kernel_rfl)
    (of_decide_eq_true (by kernel_rfl)) (by unfold Func.isWrapper; first | (rw [if_pos (by decide +kernel)]; kernel_rfl) | (rw [if_neg (by decide +kernel)]; exact ⟨rfl, rfl⟩))
    (fun os started H enc _ => lifted os started H enc)
end Go.Proofs.YtaabolgkoegohaaDoor.convsSigns
namespace Go.Proofs.YtaabolgkoegohaaDoor
open Go

theorem convsSignsCard_holds : Rows.ConvsSignsCardSaid :=
  Claim7.holds_tied_plain_at .later [] [.data, .data] true (true, "ba08bf3db07695bf9ef0c846305b0b2d296e7b6ea1b5abd53ebe95b15804ec16") false
    convsSigns.holds (fun _ h => by cases h) (by kernel_rfl) (fun _ h => by cases h) convsSigns_row_tie rfl ⟨rfl, rfl⟩ (by kernel_rfl) rfl
    (fun f fn hf hfn => by
      obtain rfl : f = 3 := Option.some.inj ((show Tryd.prog.funcNamed "jacquard/jacquardlaw05.ConvsSigns" = some 3 by kernel_rfl).symm.trans hf) |>.symm
      obtain rfl : fn = Tryd.f3 := (Option.some.inj (Tryd.func3.symm.trans hfn)).symm
      exact ⟨by kernel_rfl, fun j t ht => by
        rw [Tryd.params3] at ht
        have hm : t ∈ [5, 5, 22] := by simpa using Array.mem_of_getElem? ht
        have hall : ([5, 5, 22].all fun u => !Tryd.prog.wantsStandIn u) = true := by kernel_rfl
        exact (show Tryd.prog.wantsStandIn t = false by simpa using List.all_eq_true.1 hall t hm)⟩)
    (by kernel_rfl)
#print axioms convsSignsCard_holds
end Go.Proofs.YtaabolgkoegohaaDoor

/-
  PROVED HERE: the tied card of IntsHeld, for every input: a sum that is held is the sum, where that is within, and the bound beyond it; the mean is between both; of two just one of less, same, greater holds. No conditions beyond the card's own.
-/
import Derived.Test.YtakonchpkchfhaaDoorWh15
import Derived.Test.YtakonchpkchfhaaDoorS03m
import Derived.SevenTiedAt
set_option linter.unusedSimpArgs false
set_option linter.unusedVariables false
namespace Go.L03
open Go.Ev Go.Proofs Go.RowKit Go.Wh
theorem nf12_0 (N : BitVec 8 → Int → BitVec 64 → BitVec 64 → BitVec 64) (W : BitVec 8 → Int) (O : Int → BitVec 64 → BitVec 64) (G : Int → BitVec 64 → BitVec 64 → Bool) (n : BitVec 8) (a b : BitVec 64) : ex [(25, ThanK G true false false), (20, two1G N), (18, widG W), (19, ofG O), (15, worksS)] (fun _ => []) Tryd.f12 [.u8 n, .u64 a, .u64 b] some = heldT0 N G (W n) (O (W n) a) (O (W n) b) (O (W n) 18446744073709551615#64) := by kernel_rfl
theorem nf12_1 (N : BitVec 8 → Int → BitVec 64 → BitVec 64 → BitVec 64) (W : BitVec 8 → Int) (O : Int → BitVec 64 → BitVec 64) (G : Int → BitVec 64 → BitVec 64 → Bool) (n : BitVec 8) (a b : BitVec 64) : ex [(25, ThanK G false true false), (20, two1G N), (18, widG W), (19, ofG O), (15, worksS)] (fun _ => []) Tryd.f12 [.u8 n, .u64 a, .u64 b] some = heldT1 N G (W n) (O (W n) a) (O (W n) b) (O (W n) 18446744073709551615#64) := by kernel_rfl
theorem nf12_2 (N : BitVec 8 → Int → BitVec 64 → BitVec 64 → BitVec 64) (W : BitVec 8 → Int) (O : Int → BitVec 64 → BitVec 64) (G : Int → BitVec 64 → BitVec 64 → Bool) (n : BitVec 8) (a b : BitVec 64) : ex [(25, ThanK G false false true), (20, two1G N), (18, widG W), (19, ofG O), (15, worksS)] (fun _ => []) Tryd.f12 [.u8 n, .u64 a, .u64 b] some = heldT2 N G (W n) (O (W n) a) (O (W n) b) (O (W n) 18446744073709551615#64) := by kernel_rfl

noncomputable def kG (c : Int → Int → Bool) : Int → BitVec 64 → BitVec 64 → Bool := fun w a b => mayF w [a, b] && c (sgnF w a) (sgnF w b)
theorem than_k (c : Int → Int → Bool) (lt eq gt : Bool) (h : ∀ x y, c x y = true → (decide (x < y) = lt ∧ decide (x = y) = eq ∧ decide (y < x) = gt)) : Snd 25 (ThanK (kG c) lt eq gt) := by
  have key : ∀ {w : Int} {a b : BitVec 64}, kG c w a b = true → mayF w [a, b] = true ∧ decide (sgnF w a < sgnF w b) = lt ∧ (a == b) = eq ∧ decide (sgnF w b < sgnF w a) = gt ∧ decide (sgnF w b ≤ sgnF w a) = (eq || gt) := fun {w a b} hk => by
    unfold kG at hk
    rw [Bool.and_eq_true] at hk
    obtain ⟨hm, hc⟩ := hk
    obtain ⟨h1, h2, h3⟩ := h _ _ hc
    obtain ⟨ha, hb⟩ := may_fit hm
    have e : (a == b) = decide (sgnF w a = sgnF w b) := by
      rw [Bool.eq_iff_iff, beq_iff_eq, decide_eq_true_eq]
      exact ⟨fun e => by rw [e], fun e => sgn_inj ha hb e⟩
    refine ⟨hm, h1, e.trans h2, h3, ?_⟩
    rw [← h2, ← h3, Bool.eq_iff_iff]
    simp
    omega
  have go : ∀ (o : BitVec 8) (w : Int) (a b : BitVec 64) (v : Bool), thanB o w a b = v → mayF w [a, b] = true → Pt Tryd.prog G0 25 [.u8 o, .i .i64 w, .u64 a, .u64 b] (.tup [.bool v, .any]) := fun o w a b v hv hm => by
    have e := t_Than.pt (ds := [.u8 o, .i .i64 w, .u64 a, .u64 b]) (d := thanV o w a b) rfl
    intro W args hG hl
    have := e W args hG hl
    unfold thanV at this
    rw [hm, Bool.true_and, hv] at this
    rcases this with ⟨v1, w1, h1, h2, h3⟩ | ⟨h1, h2⟩
    · refine .inl ⟨v1, w1, h1, h2, ?_⟩
      simp only [lies, lie] at h3 ⊢
      obtain ⟨cs, e1, v2, c2, e2, e3, v3, c3, e4, e5, e6⟩ := h3
      exact ⟨cs, e1, v2, c2, e2, e3, v3, c3, e4, trivial, e6⟩
    · refine .inr ⟨h1, ?_⟩
      refine Calls.mono h2 fun e w' ⟨v1, he, hb, h3⟩ => ⟨v1, he, hb, ?_⟩
      simp only [lies, lie] at h3 ⊢
      obtain ⟨cs, e1, v2, c2, e2, e3, v3, c3, e4, e5, e6⟩ := h3
      exact ⟨cs, e1, v2, c2, e2, e3, v3, c3, e4, trivial, e6⟩
  refine Sound.of_ptG fun ds d hd => ?_
  split at hd
  · rename_i w a b
    simp only [Option.some.injEq, Prod.mk.injEq] at hd
    obtain ⟨hk, rfl⟩ := hd
    obtain ⟨hm, h1, h2, h3, h4⟩ := key hk
    exact go _ w a b _ h1 hm
  · rename_i w a b
    simp only [Option.some.injEq, Prod.mk.injEq] at hd
    obtain ⟨hk, rfl⟩ := hd
    obtain ⟨hm, h1, h2, h3, h4⟩ := key hk
    exact go _ w a b _ h2 hm
  · rename_i w a b
    simp only [Option.some.injEq, Prod.mk.injEq] at hd
    obtain ⟨hk, rfl⟩ := hd
    obtain ⟨hm, h1, h2, h3, h4⟩ := key hk
    exact go _ w a b _ h3 hm
  · rename_i w a b
    simp only [Option.some.injEq, Prod.mk.injEq] at hd
    obtain ⟨hk, rfl⟩ := hd
    obtain ⟨hm, h1, h2, h3, h4⟩ := key hk
    exact go _ w a b _ h4 hm
  · cases hd
theorem held12 : Snd 12 (trueS fun | [.u8 _, .u64 _, .u64 _] => true | _ => false) := by
  refine Sound.of_ptG fun ds d h => ?_
  simp only [Option.some.injEq, Prod.mk.injEq] at h
  obtain ⟨h, rfl⟩ := h
  split at h
  · rename_i n a b
    have h := okW_wid n
    have hA := fit_and h a
    have hB := fit_and h b
    have hm := may_of hA hB
    rcases Int.lt_trichotomy (sgnF (widF n) (a &&& maskF (widF n))) (sgnF (widF n) (b &&& maskF (widF n))) with hc | hc | hc
    · have hG : kG (fun x y => decide (x < y)) (widF n) (a &&& maskF (widF n)) (b &&& maskF (widF n)) = true := by simp only [kG, hm, Bool.true_and, decide_eq_true_eq]; exact hc
      exact (execFn_sound (ann := fun _ => []) (TableOK.cons (than_k (fun x y => decide (x < y)) true false false (fun x y h => by simp at h ⊢; omega)) (TableOK.cons t_two1 (TableOK.cons t_wid (TableOK.cons t_of (TableOK.cons t_works TableOK.nil))))) mixed Tryd.func12 (by kernel_rfl) 50).pt ((nf12_0 twoN widF (fun w a => a &&& maskF w) (kG fun x y => decide (x < y)) n a b).trans (held_end0 hA hB hc hG))
    · have hG : kG (fun x y => decide (x = y)) (widF n) (a &&& maskF (widF n)) (b &&& maskF (widF n)) = true := by simp only [kG, hm, Bool.true_and, decide_eq_true_eq]; exact hc
      exact (execFn_sound (ann := fun _ => []) (TableOK.cons (than_k (fun x y => decide (x = y)) false true false (fun x y h => by simp at h ⊢; omega)) (TableOK.cons t_two1 (TableOK.cons t_wid (TableOK.cons t_of (TableOK.cons t_works TableOK.nil))))) mixed Tryd.func12 (by kernel_rfl) 50).pt ((nf12_1 twoN widF (fun w a => a &&& maskF w) (kG fun x y => decide (x = y)) n a b).trans (held_end1 hA hB hc hG))
    · have hG : kG (fun x y => decide (y < x)) (widF n) (a &&& maskF (widF n)) (b &&& maskF (widF n)) = true := by simp only [kG, hm, Bool.true_and, decide_eq_true_eq]; exact hc
      exact (execFn_sound (ann := fun _ => []) (TableOK.cons (than_k (fun x y => decide (y < x)) false false true (fun x y h => by simp at h ⊢; omega)) (TableOK.cons t_two1 (TableOK.cons t_wid (TableOK.cons t_of (TableOK.cons t_works TableOK.nil))))) mixed Tryd.func12 (by kernel_rfl) 50).pt ((nf12_2 twoN widF (fun w a => a &&& maskF w) (kG fun x y => decide (y < x)) n a b).trans (held_end2 hA hB hc hG))
  · cases h

end Go.L03
namespace Go.Proofs.YtakonchpkchfhaaDoor.intsHeld
open Go Go.L03 Go.Ev Go.RowKit Go.ChangeShapes Go.WideShapes Go.ChangeAt
set_option maxRecDepth 100000 in
theorem lifted (os : Os) (started : os.Started) (H : Type) (enc : TypeId × Value → H) :
    ReturnsInHanded {} Tryd.checked os 12 .any (fun w args => (Rows.intsHeldSpec.pre enc Tryd.prog Tryd.f12 [] false w args ∧ laidMetH Tryd.prog laid2 w) ∧ sizedMet enc Tryd.prog Tryd.f12 (OpenSpec.ofChange Rows.intsHeldSpec) false w args)
      (Rows.intsHeldSpec.post enc Tryd.prog Tryd.f12 false true false false) := by
  refine returnsInHanded_of_change_and (C := Tryd.checked) (X := fun w _ => laidMetH Tryd.prog laid2 w) (fun _ _ _ hh h => h.of_heap hh) own started (by kernel_rfl) Tryd.func12
    (ChangeSpec.witness_shaped (enc := enc) (C := Tryd.checked) (os := os) (X := fun w _ => laidMetH Tryd.prog laid2 w) false (World.doorLaid Tryd.prog 19 os) #[.int .u8 0, .int .u64 0, .int .u64 0] 8 rfl (World.shaped_of_RefB (by kernel_rfl) (by kernel_rfl)) (by kernel_rfl) (by kernel_rfl) (by kernel_rfl)
      (door_met os _)) ?_
  intro W base args ds gs before hval0 hW _ hwt hL hsz
  have hval : ∀ (j : Nat) t v, Tryd.f12.params[j]? = some t → args[j]? = some v → Value.okWide Tryd.prog W .any base t v := hval0
  have hW' := hW
  obtain ⟨p, q, hA0, hV, rfl, hfz, hnd⟩ := hW
  have hA : DataW.TrodAll enc Tryd.prog W 0 (fun _ => true) true Tryd.f12.params.toList args.toList ds p := hA0
  rw [Tryd.params12] at hA hval
  obtain ⟨v0, vs0, d0, ds0, p0, q0, hargs, rfl, rfl, h0, r0⟩ := trodAll_cons hA
  obtain ⟨v1, vs1, d1, ds1, p1, q1, rfl, rfl, rfl, h1, r1⟩ := trodAll_cons r0
  obtain ⟨v2, vs2, d2, ds2, p2, q2, rfl, rfl, rfl, h2, r2⟩ := trodAll_cons r1
  obtain ⟨rfl, rfl, rfl⟩ := trodAll_nil r2
  obtain rfl : args = #[v0, v1, v2] := by cases args; simp_all
  obtain ⟨x0, l0⟩ := arg_u8 (own := none) Tryd.underlying5 (hval 0 5 v0 rfl rfl) h0
  obtain ⟨x1, l1⟩ := arg_u64 (own := none) Tryd.underlying23 (hval 1 23 v1 rfl rfl) h1
  obtain ⟨x2, l2⟩ := arg_u64 (own := none) Tryd.underlying23 (hval 2 23 v2 rfl rfl) h2
  refine (call_true held12 (ds := [.u8 x0, .u64 x1, .u64 x2]) rfl (glob_of_laid hL) (by simp only [lie]; exact ⟨_, _, rfl, l0, _, _, rfl, l1, _, _, rfl, l2, rfl⟩) (by kernel_rfl)).mono fun e W' ⟨he, hb⟩ => ?_
  subst he
  exact ⟨_, rfl, post_law hW' hb laidOut (by kernel_rfl) rfl (by kernel_rfl) Tryd.underlying4 rfl⟩

theorem holds : Rows.IntsHeldSaid :=
  OpenClaim.holds_of_wide 12 Tryd.f12 rfl rfl rfl rfl rfl rfl rfl ⟨rfl, rfl, rfl, rfl, rfl⟩ rfl rfl rfl rfl rfl (by kernel_rfl) Tryd.func12 (by kernel_rfl)
    (of_decide_eq_true (by kernel_rfl)) (by unfold Func.isWrapper; first | (rw [if_pos (by decide +kernel)]; kernel_rfl) | (rw [if_neg (by decide +kernel)]; exact ⟨rfl, rfl⟩))
    (fun os started H enc _ => lifted os started H enc)
end Go.Proofs.YtakonchpkchfhaaDoor.intsHeld
namespace Go.Proofs.YtakonchpkchfhaaDoor
open Go

theorem intsHeldCard_holds : Rows.IntsHeldCardSaid :=
  Claim7.holds_tied_plain_at .later [] [.data, .data] true (true, "47245fa915dfebe7f26fed2fc3b09fe84bb547fd18b756b5389db3167ff8c1f7") false
    intsHeld.holds (fun _ h => by cases h) (by kernel_rfl) (fun _ h => by cases h) intsHeld_row_tie rfl ⟨rfl, rfl⟩ (by kernel_rfl) rfl
    (fun f fn hf hfn => by
      obtain rfl : f = 12 := Option.some.inj ((show Tryd.prog.funcNamed "jacquard/jacquardlaw03.IntsHeld" = some 12 by kernel_rfl).symm.trans hf) |>.symm
      obtain rfl : fn = Tryd.f12 := (Option.some.inj (Tryd.func12.symm.trans hfn)).symm
      exact ⟨by kernel_rfl, fun j t ht => by
        rw [Tryd.params12] at ht
        have hm : t ∈ [5, 23, 23] := by simpa using Array.mem_of_getElem? ht
        have hall : ([5, 23, 23].all fun u => !Tryd.prog.wantsStandIn u) = true := by kernel_rfl
        exact (show Tryd.prog.wantsStandIn t = false by simpa using List.all_eq_true.1 hall t hm)⟩)
    (by kernel_rfl)
#print axioms intsHeldCard_holds
end Go.Proofs.YtakonchpkchfhaaDoor

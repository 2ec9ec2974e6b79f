/-
  PROVED HERE: the tied card of PlainBack, for every input: a number that is stored, and loaded, is itself, or its lowest bits, with a sign and without. No conditions beyond the card's own.
-/
import Derived.Test.YtnbafdmlfpmfkaaGreatDoorS23r
import Derived.Test.YtnbafdmlfpmfkaaGreatDoorQ23B
import Derived.SevenTiedAt
set_option linter.unusedSimpArgs false
set_option linter.unusedVariables false
set_option maxRecDepth 100000
namespace Go.L23
open Go.Ev Go.Proofs Go.RowKit Go.Wh

theorem plainBack_s : Snd 4 (trueS fun | [.u16 _, .u16 _, .agg [.u8 _, .u64 _, .u64 _]] => true | _ => false) := by
  refine Sound.of_ptG fun ds d h => ?_
  simp only [Option.some.injEq, Prod.mk.injEq] at h
  obtain ⟨h, rfl⟩ := h
  split at h
  · exact back_pt _ _ _ _ _
  · cases h

end Go.L23
namespace Go.Proofs.YtnbafdmlfpmfkaaGreatDoor.plainBack
open Go Go.L23 Go.Ev Go.RowKit Go.ChangeShapes Go.WideShapes Go.ChangeAt
set_option maxRecDepth 100000 in
theorem lifted (os : Os) (started : os.Started) (H : Type) (enc : TypeId × Value → H) :
    ReturnsInHanded {} Tryz.checked os 4 .any (fun w args => (Rows.plainBackSpec.pre enc Tryz.prog Tryz.f4 [] false w args ∧ laidMetH Tryz.prog laid2 w) ∧ sizedMet enc Tryz.prog Tryz.f4 (OpenSpec.ofChange Rows.plainBackSpec) false w args)
      (Rows.plainBackSpec.post enc Tryz.prog Tryz.f4 false true false false) := by
  refine returnsInHanded_of_change_and (C := Tryz.checked) (X := fun w _ => laidMetH Tryz.prog laid2 w) (fun _ _ _ hh h => h.of_heap hh) own started (by kernel_rfl) Tryz.func4
    (ChangeSpec.witness_shaped (enc := enc) (C := Tryz.checked) (os := os) (X := fun w _ => laidMetH Tryz.prog laid2 w) false (World.laidAll Tryz.prog os laid2) #[.int .u16 0, .int .u16 0, .agg #[.int .u8 0, .int .u64 0, .int .u64 0]] 8 rfl (lay_shaped os) (by kernel_rfl) (by kernel_rfl) (by kernel_rfl)
      (lay_met os _)) ?_
  intro W base args ds gs before hval0 hW _ hwt hL hsz
  have hval : ∀ (j : Nat) t v, Tryz.f4.params[j]? = some t → args[j]? = some v → Value.okWide Tryz.prog W .any base t v := hval0
  have hW' := hW
  obtain ⟨p, q, hA0, hV, rfl, hfz, hnd⟩ := hW
  have hA : DataW.TrodAll enc Tryz.prog W 0 (fun _ => true) true Tryz.f4.params.toList args.toList ds p := hA0
  rw [Tryz.params4] at hA hval
  obtain ⟨v0, vs0, d0, ds0, p0, q0, hargs, rfl, rfl, h0, r0⟩ := trodAll_cons hA
  obtain ⟨v1, vs1, d1, ds1, p1, q1, rfl, rfl, rfl, h1, r1⟩ := trodAll_cons r0
  obtain ⟨v2, vs2, d2, ds2, p2, q2, rfl, rfl, rfl, h2, r2⟩ := trodAll_cons r1
  obtain ⟨rfl, rfl, rfl⟩ := trodAll_nil r2
  obtain rfl : args = #[v0, v1, v2] := by cases args; simp_all
  obtain ⟨x0, l0⟩ := a_u16 (own := none) Tryz.underlying23 (hval 0 23 v0 rfl rfl) h0
  obtain ⟨x1, l1⟩ := a_u16 (own := none) Tryz.underlying23 (hval 1 23 v1 rfl rfl) h1
  obtain ⟨t2, x2, y2, l2⟩ := a_val (own := none) (hval 2 29 v2 rfl rfl) h2
  refine (call_true plainBack_s (ds := [.u16 x0, .u16 x1, .agg [.u8 t2, .u64 x2, .u64 y2]]) rfl (glob_of_laid hL) (by simp only [lie]; exact ⟨_, _, rfl, l0, _, _, rfl, l1, _, _, rfl, l2, rfl⟩) (by kernel_rfl)).mono fun e W' ⟨he, hb⟩ => ?_
  subst he
  exact ⟨_, rfl, post_law hW' hb laidOut (by kernel_rfl) rfl (by kernel_rfl) Tryz.underlying4 rfl⟩

theorem k_named : Tryz.prog.funcNamed "jacquard/jacquardlaw23.PlainBack" = some 4 := by kernel_rfl
set_option maxHeartbeats 0 in
theorem k_closed : joinedFacts Tryz.prog 4 Tryz.f4 Rows.plainBackSpec Rows.plainBackRow = true := by
  unfold joinedFacts
  refine andI (andI (andI (andI (andI (andI (andI (andI (andI (andI (andI (andI (andI (andI (andI (andI (andI (andI (andI (andI (andI (andI (andI (andI (andI (andI (andI (andI (andI (andI (andI ?_ ?_) ?_) ?_) ?_) ?_) ?_) ?_) ?_) ?_) ?_) ?_) ?_) ?_) ?_) ?_) ?_) ?_) ?_) ?_) ?_) ?_) ?_) ?_) ?_) ?_) ?_) ?_) ?_) ?_) ?_) ?_
  all_goals (as_aux_lemma => kernel_rfl)
set_option maxHeartbeats 0 in
theorem holds : Rows.PlainBackSaid :=
  OpenClaim.holds_of_wide 4 Tryz.f4 rfl rfl rfl rfl rfl rfl rfl ⟨rfl, rfl, rfl, rfl, rfl⟩ rfl rfl rfl rfl rfl k_named Tryz.func4 k_closed
    (of_decide_eq_true (by as_aux_lemma => kernel_rfl)) (by unfold Func.isWrapper; first | (rw [if_pos (by decide +kernel)]; kernel_rfl) | (rw [if_neg (by decide +kernel)]; exact ⟨rfl, rfl⟩))
    (fun os started H enc _ => lifted os started H enc)
end Go.Proofs.YtnbafdmlfpmfkaaGreatDoor.plainBack
namespace Go.Proofs.YtnbafdmlfpmfkaaGreatDoor
open Go Go.L23

set_option maxHeartbeats 0 in
theorem plainBackCard_holds : Rows.PlainBackCardSaid :=
  Claim7.holds_tied_plain_at .later [] [.data, .data, .data, .listed, .data, .data, .data, .data, .data, .data, .data, .data, .pinned] true (true, "8a0ec0e2d0c8395f9c70730a87ba2427364a143c9bc067253e316568675d628e") false
    plainBack.holds (fun _ h => by cases h) (by as_aux_lemma => kernel_rfl) (fun _ h => by cases h) plainBack_row_tie rfl ⟨rfl, rfl⟩ mainIs rfl
    (fun f fn hf hfn => by
      obtain rfl : f = 4 := Option.some.inj (plainBack.k_named.symm.trans hf) |>.symm
      obtain rfl : fn = Tryz.f4 := (Option.some.inj (Tryz.func4.symm.trans hfn)).symm
      exact ⟨looks0, fun j t ht => by
        rw [Tryz.params4] at ht
        have hm : t ∈ [23, 23, 29] := by simpa using Array.mem_of_getElem? ht
        have hall : ([23, 23, 29].all fun u => !Tryz.prog.wantsStandIn u) = true := by kernel_rfl
        exact (show Tryz.prog.wantsStandIn t = false by simpa using List.all_eq_true.1 hall t hm)⟩)
    (by as_aux_lemma => kernel_rfl)
#print axioms plainBackCard_holds
end Go.Proofs.YtnbafdmlfpmfkaaGreatDoor

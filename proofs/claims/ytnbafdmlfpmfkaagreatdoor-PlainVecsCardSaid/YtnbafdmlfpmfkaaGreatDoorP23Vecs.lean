/-
  PROVED HERE: the tied card of PlainVecs, for every input: the vector of a value and the value of a vector are those of the document. No conditions beyond the card's own.
-/
import Derived.Test.YtnbafdmlfpmfkaaGreatDoorS23w
import Derived.Test.YtnbafdmlfpmfkaaGreatDoorS23r
import Derived.Test.YtnbafdmlfpmfkaaGreatDoorS23A
import Derived.SevenTiedAt
set_option linter.unusedSimpArgs false
set_option linter.unusedVariables false
set_option maxRecDepth 100000
namespace Go.L23
open Go.Ev Go.Proofs Go.RowKit Go.Wh

theorem plainVecs_s : Snd 8 (trueS fun | [.agg [.u8 _, .u64 _, .u64 _], .agg [.u64 _, .u64 _]] => true | _ => false) := by
  refine Sound.guard (execFn_sound (ann := fun _ => []) (TableOK.cons t_works (TableOK.cons t_X22 (TableOK.cons t_X23 (TableOK.cons t_X24 (TableOK.cons t_X25 TableOK.nil))))) mixed Tryz.func8 (by kernel_rfl) 50) fun ds d h => ?_
  simp only [Option.some.injEq, Prod.mk.injEq] at h
  obtain ⟨h, rfl⟩ := h
  split at h
  · rename_i t x y a b
    have nf : ex [(12, worksS), (22, X22), (23, X23), (24, X24), (25, X25)] (fun _ => []) Tryz.f8 [.agg [.u8 t, .u64 x, .u64 y], .agg [.u64 a, .u64 b]] some = if (x == x && y == y) = true then if ((123#8 == 123#8) && (a == a && b == b)) = true then if (a == a && b == b) = true then some (.bool true) else some (.bool false) else some (.bool false) else some (.bool false) := by kernel_rfl
    refine nf.trans ?_
    simp
  · cases h

end Go.L23
namespace Go.Proofs.YtnbafdmlfpmfkaaGreatDoor.plainVecs
open Go Go.L23 Go.Ev Go.RowKit Go.ChangeShapes Go.WideShapes Go.ChangeAt
set_option maxRecDepth 100000 in
theorem lifted (os : Os) (started : os.Started) (H : Type) (enc : TypeId × Value → H) :
    ReturnsInHanded {} Tryz.checked os 8 .any (fun w args => (Rows.plainVecsSpec.pre enc Tryz.prog Tryz.f8 [] false w args ∧ laidMetH Tryz.prog laid2 w) ∧ sizedMet enc Tryz.prog Tryz.f8 (OpenSpec.ofChange Rows.plainVecsSpec) false w args)
      (Rows.plainVecsSpec.post enc Tryz.prog Tryz.f8 false true false false) := by
  refine returnsInHanded_of_change_and (C := Tryz.checked) (X := fun w _ => laidMetH Tryz.prog laid2 w) (fun _ _ _ hh h => h.of_heap hh) own started (by kernel_rfl) Tryz.func8
    (ChangeSpec.witness_shaped (enc := enc) (C := Tryz.checked) (os := os) (X := fun w _ => laidMetH Tryz.prog laid2 w) false (World.laidAll Tryz.prog os laid2) #[.agg #[.int .u8 0, .int .u64 0, .int .u64 0], .agg #[.int .u64 0, .int .u64 0]] 8 rfl (lay_shaped os) (by kernel_rfl) (by kernel_rfl) (by kernel_rfl)
      (lay_met os _)) ?_
  intro W base args ds gs before hval0 hW _ hwt hL hsz
  have hval : ∀ (j : Nat) t v, Tryz.f8.params[j]? = some t → args[j]? = some v → Value.okWide Tryz.prog W .any base t v := hval0
  have hW' := hW
  obtain ⟨p, q, hA0, hV, rfl, hfz, hnd⟩ := hW
  have hA : DataW.TrodAll enc Tryz.prog W 0 (fun _ => true) true Tryz.f8.params.toList args.toList ds p := hA0
  rw [Tryz.params8] at hA hval
  obtain ⟨v0, vs0, d0, ds0, p0, q0, hargs, rfl, rfl, h0, r0⟩ := trodAll_cons hA
  obtain ⟨v1, vs1, d1, ds1, p1, q1, rfl, rfl, rfl, h1, r1⟩ := trodAll_cons r0
  obtain ⟨rfl, rfl, rfl⟩ := trodAll_nil r1
  obtain rfl : args = #[v0, v1] := by cases args; simp_all
  obtain ⟨t0, x0, y0, l0⟩ := a_val (own := none) (hval 0 29 v0 rfl rfl) h0
  obtain ⟨x1, y1, l1⟩ := a_vec (own := none) (hval 1 26 v1 rfl rfl) h1
  refine (call_true plainVecs_s (ds := [.agg [.u8 t0, .u64 x0, .u64 y0], vec x1 y1]) rfl (glob_of_laid hL) (by simp only [lie]; exact ⟨_, _, rfl, l0, _, _, rfl, l1, rfl⟩) (by kernel_rfl)).mono fun e W' ⟨he, hb⟩ => ?_
  subst he
  exact ⟨_, rfl, post_law hW' hb laidOut (by kernel_rfl) rfl (by kernel_rfl) Tryz.underlying4 rfl⟩

theorem k_named : Tryz.prog.funcNamed "jacquard/jacquardlaw23.PlainVecs" = some 8 := by kernel_rfl
set_option maxHeartbeats 0 in
theorem k_closed : joinedFacts Tryz.prog 8 Tryz.f8 Rows.plainVecsSpec Rows.plainVecsRow = true := by
  unfold joinedFacts
  refine andI (andI (andI (andI (andI (andI (andI (andI (andI (andI (andI (andI (andI (andI (andI (andI (andI (andI (andI (andI (andI (andI (andI (andI (andI (andI (andI (andI (andI (andI (andI ?_ ?_) ?_) ?_) ?_) ?_) ?_) ?_) ?_) ?_) ?_) ?_) ?_) ?_) ?_) ?_) ?_) ?_) ?_) ?_) ?_) ?_) ?_) ?_) ?_) ?_) ?_) ?_) ?_) ?_) ?_) ?_
  all_goals (as_aux_lemma => kernel_rfl)
set_option maxHeartbeats 0 in
theorem holds : Rows.PlainVecsSaid :=
  OpenClaim.holds_of_wide 8 Tryz.f8 rfl rfl rfl rfl rfl rfl rfl ⟨rfl, rfl, rfl, rfl, rfl⟩ rfl rfl rfl rfl rfl k_named Tryz.func8 k_closed
    (of_decide_eq_true (by as_aux_lemma => kernel_rfl)) (by unfold Func.isWrapper; first | (rw [if_pos (by decide +kernel)]; kernel_rfl) | (rw [if_neg (by decide +kernel)]; exact ⟨rfl, rfl⟩))
    (fun os started H enc _ => lifted os started H enc)
end Go.Proofs.YtnbafdmlfpmfkaaGreatDoor.plainVecs
namespace Go.Proofs.YtnbafdmlfpmfkaaGreatDoor
open Go Go.L23

set_option maxHeartbeats 0 in
theorem plainVecsCard_holds : Rows.PlainVecsCardSaid :=
  Claim7.holds_tied_plain_at .later [] [.data, .data, .data, .listed, .data, .data, .data, .data, .data, .data, .data, .data, .pinned] true (true, "8a0ec0e2d0c8395f9c70730a87ba2427364a143c9bc067253e316568675d628e") false
    plainVecs.holds (fun _ h => by cases h) (by as_aux_lemma => kernel_rfl) (fun _ h => by cases h) plainVecs_row_tie rfl ⟨rfl, rfl⟩ mainIs rfl
    (fun f fn hf hfn => by
      obtain rfl : f = 8 := Option.some.inj (plainVecs.k_named.symm.trans hf) |>.symm
      obtain rfl : fn = Tryz.f8 := (Option.some.inj (Tryz.func8.symm.trans hfn)).symm
      exact ⟨looks0, fun j t ht => by
        rw [Tryz.params8] at ht
        have hm : t ∈ [29, 26] := by simpa using Array.mem_of_getElem? ht
        have hall : ([29, 26].all fun u => !Tryz.prog.wantsStandIn u) = true := by kernel_rfl
        exact (show Tryz.prog.wantsStandIn t = false by simpa using List.all_eq_true.1 hall t hm)⟩)
    (by as_aux_lemma => kernel_rfl)
#print axioms plainVecsCard_holds
end Go.Proofs.YtnbafdmlfpmfkaaGreatDoor

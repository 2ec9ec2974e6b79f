/-
  PROVED HERE: the tied card of PlainStores, for every input: which bytes are stored of a value is what the document says, or its error. No conditions beyond the card's own.
-/
import Derived.Test.YtnbafdmlfpmfkaaGreatDoorS23w
import Derived.Test.YtnbafdmlfpmfkaaGreatDoorS23r
import Derived.Test.YtnbafdmlfpmfkaaGreatDoorQ23S
import Derived.SevenTiedAt
set_option linter.unusedSimpArgs false
set_option linter.unusedVariables false
set_option maxRecDepth 100000
namespace Go.L23
open Go.Ev Go.Proofs Go.RowKit Go.Wh

theorem plainStores_s : Snd 9 (trueS fun | [.u16 _, .agg [.u8 _, .u64 _, .u64 _], .i .i64 _] => true | _ => false) := by
  refine Sound.guard (execFn_sound (ann := fun _ => []) (TableOK.cons t_ps (TableOK.cons t_rs (TableOK.cons t_works TableOK.nil))) mixed Tryz.func9 (by kernel_rfl) 50) fun ds d h => ?_
  simp only [Option.some.injEq, Prod.mk.injEq] at h
  obtain ⟨h, rfl⟩ := h
  split at h
  · rename_i o u b0 b1 i
    have nf : ∀ r : Nat → BitVec 8 → BitVec 64 → BitVec 64 → Int → S4, ex [(15, StoreG r), (26, StoreG r), (12, worksS)] (fun _ => []) Tryz.f9 [.u16 o, .agg [.u8 u, .u64 b0, .u64 b1], .i .i64 i] some =
      if ((r o.toNat u b0 b1 i).1 == (r o.toNat u b0 b1 i).1 && (r o.toNat u b0 b1 i).2.1 == (r o.toNat u b0 b1 i).2.1) = true then
        if ((r o.toNat u b0 b1 i).2.2.1 == (r o.toNat u b0 b1 i).2.2.1) = true then if ((r o.toNat u b0 b1 i).2.2.2 == (r o.toNat u b0 b1 i).2.2.2) = true then some (.bool true) else some (.bool false) else some (.bool false) else some (.bool false) := fun r => by kernel_rfl
    refine (nf fun n => stR (stK n)).trans ?_
    simp
  · cases h

end Go.L23
namespace Go.Proofs.YtnbafdmlfpmfkaaGreatDoor.plainStores
open Go Go.L23 Go.Ev Go.RowKit Go.ChangeShapes Go.WideShapes Go.ChangeAt
set_option maxRecDepth 100000 in
theorem lifted (os : Os) (started : os.Started) (H : Type) (enc : TypeId × Value → H) :
    ReturnsInHanded {} Tryz.checked os 9 .any (fun w args => (Rows.plainStoresSpec.pre enc Tryz.prog Tryz.f9 [] false w args ∧ laidMetH Tryz.prog laid2 w) ∧ sizedMet enc Tryz.prog Tryz.f9 (OpenSpec.ofChange Rows.plainStoresSpec) false w args)
      (Rows.plainStoresSpec.post enc Tryz.prog Tryz.f9 false true false false) := by
  refine returnsInHanded_of_change_and (C := Tryz.checked) (X := fun w _ => laidMetH Tryz.prog laid2 w) (fun _ _ _ hh h => h.of_heap hh) own started (by kernel_rfl) Tryz.func9
    (ChangeSpec.witness_shaped (enc := enc) (C := Tryz.checked) (os := os) (X := fun w _ => laidMetH Tryz.prog laid2 w) false (World.laidAll Tryz.prog os laid2) #[.int .u16 0, .agg #[.int .u8 0, .int .u64 0, .int .u64 0], .int .i64 0] 8 rfl (lay_shaped os) (by kernel_rfl) (by kernel_rfl) (by kernel_rfl)
      (lay_met os _)) ?_
  intro W base args ds gs before hval0 hW _ hwt hL hsz
  have hval : ∀ (j : Nat) t v, Tryz.f9.params[j]? = some t → args[j]? = some v → Value.okWide Tryz.prog W .any base t v := hval0
  have hW' := hW
  obtain ⟨p, q, hA0, hV, rfl, hfz, hnd⟩ := hW
  have hA : DataW.TrodAll enc Tryz.prog W 0 (fun _ => true) true Tryz.f9.params.toList args.toList ds p := hA0
  rw [Tryz.params9] at hA hval
  obtain ⟨v0, vs0, d0, ds0, p0, q0, hargs, rfl, rfl, h0, r0⟩ := trodAll_cons hA
  obtain ⟨v1, vs1, d1, ds1, p1, q1, rfl, rfl, rfl, h1, r1⟩ := trodAll_cons r0
  obtain ⟨v2, vs2, d2, ds2, p2, q2, rfl, rfl, rfl, h2, r2⟩ := trodAll_cons r1
  obtain ⟨rfl, rfl, rfl⟩ := trodAll_nil r2
  obtain rfl : args = #[v0, v1, v2] := by cases args; simp_all
  obtain ⟨x0, l0⟩ := a_u16 (own := none) Tryz.underlying23 (hval 0 23 v0 rfl rfl) h0
  obtain ⟨t1, x1, y1, l1⟩ := a_val (own := none) (hval 1 29 v1 rfl rfl) h1
  obtain ⟨n2, l2, w2⟩ := arg_i64 (own := none) Tryz.underlying3 (hval 2 3 v2 rfl rfl) h2
  refine (call_true plainStores_s (ds := [.u16 x0, .agg [.u8 t1, .u64 x1, .u64 y1], .i .i64 n2]) rfl (glob_of_laid hL) (by simp only [lie]; exact ⟨_, _, rfl, l0, _, _, rfl, l1, _, _, rfl, l2, rfl⟩) (by kernel_rfl)).mono fun e W' ⟨he, hb⟩ => ?_
  subst he
  exact ⟨_, rfl, post_law hW' hb laidOut (by kernel_rfl) rfl (by kernel_rfl) Tryz.underlying4 rfl⟩

theorem k_named : Tryz.prog.funcNamed "jacquard/jacquardlaw23.PlainStores" = some 9 := by kernel_rfl
set_option maxHeartbeats 0 in
theorem k_closed : joinedFacts Tryz.prog 9 Tryz.f9 Rows.plainStoresSpec Rows.plainStoresRow = true := by
  unfold joinedFacts
  refine andI (andI (andI (andI (andI (andI (andI (andI (andI (andI (andI (andI (andI (andI (andI (andI (andI (andI (andI (andI (andI (andI (andI (andI (andI (andI (andI (andI (andI (andI (andI ?_ ?_) ?_) ?_) ?_) ?_) ?_) ?_) ?_) ?_) ?_) ?_) ?_) ?_) ?_) ?_) ?_) ?_) ?_) ?_) ?_) ?_) ?_) ?_) ?_) ?_) ?_) ?_) ?_) ?_) ?_) ?_
  all_goals (as_aux_lemma => kernel_rfl)
set_option maxHeartbeats 0 in
theorem holds : Rows.PlainStoresSaid :=
  OpenClaim.holds_of_wide 9 Tryz.f9 rfl rfl rfl rfl rfl rfl rfl ⟨rfl, rfl, rfl, rfl, rfl⟩ rfl rfl rfl rfl rfl k_named Tryz.func9 k_closed
    (of_decide_eq_true (by as_aux_lemma => kernel_rfl)) (by unfold Func.isWrapper; first | (rw [if_pos (by decide +kernel)]; kernel_rfl) | (rw [if_neg (by decide +kernel)]; exact ⟨rfl, rfl⟩))
    (fun os started H enc _ => lifted os started H enc)
end Go.Proofs.YtnbafdmlfpmfkaaGreatDoor.plainStores
namespace Go.Proofs.YtnbafdmlfpmfkaaGreatDoor
open Go Go.L23

set_option maxHeartbeats 0 in
theorem plainStoresCard_holds : Rows.PlainStoresCardSaid :=
  Claim7.holds_tied_plain_at .later [] [.data, .data, .data, .listed, .data, .data, .data, .data, .data, .data, .data, .data, .pinned] true (true, "8a0ec0e2d0c8395f9c70730a87ba2427364a143c9bc067253e316568675d628e") false
    plainStores.holds (fun _ h => by cases h) (by as_aux_lemma => kernel_rfl) (fun _ h => by cases h) plainStores_row_tie rfl ⟨rfl, rfl⟩ mainIs rfl
    (fun f fn hf hfn => by
      obtain rfl : f = 9 := Option.some.inj (plainStores.k_named.symm.trans hf) |>.symm
      obtain rfl : fn = Tryz.f9 := (Option.some.inj (Tryz.func9.symm.trans hfn)).symm
      exact ⟨looks0, fun j t ht => by
        rw [Tryz.params9] at ht
        have hm : t ∈ [23, 29, 3] := by simpa using Array.mem_of_getElem? ht
        have hall : ([23, 29, 3].all fun u => !Tryz.prog.wantsStandIn u) = true := by kernel_rfl
        exact (show Tryz.prog.wantsStandIn t = false by simpa using List.all_eq_true.1 hall t hm)⟩)
    (by as_aux_lemma => kernel_rfl)
#print axioms plainStoresCard_holds
end Go.Proofs.YtnbafdmlfpmfkaaGreatDoor

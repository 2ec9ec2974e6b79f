/-
  PROVED HERE: the tied card of LanesFresh, for every input: what is handed in stays; what is answered is new memory. No conditions beyond the card's own.
-/
import Derived.Test.YtlcgkcnknjflpaaDoorS06f
import Derived.Test.YtlcgkcnknjflpaaDoorS06y
import Derived.Test.YtlcgkcnknjflpaaDoorEv26
import Derived.SevenTiedAt
set_option linter.unusedSimpArgs false
set_option linter.unusedVariables false
namespace Go.L06
open Go.Ev Go.Proofs Go.RowKit Go.Rt

end Go.L06
namespace Go.Proofs.YtlcgkcnknjflpaaDoor.lanesFresh
open Go Go.L06 Go.Ev Go.RowKit Go.ChangeShapes Go.WideShapes Go.ChangeAt
set_option maxRecDepth 100000 in
theorem lifted (os : Os) (started : os.Started) (H : Type) (enc : TypeId × Value → H) :
    ReturnsInHanded {} Tryd.checked os 9 .any (fun w args => (Rows.lanesFreshSpec.pre enc Tryd.prog Tryd.f9 [] false w args ∧ laidMetH Tryd.prog laid2 w) ∧ sizedMet enc Tryd.prog Tryd.f9 (OpenSpec.ofChange Rows.lanesFreshSpec) false w args)
      (Rows.lanesFreshSpec.post enc Tryd.prog Tryd.f9 false true false false) := by
  refine returnsInHanded_of_change_and (C := Tryd.checked) (X := fun w _ => laidMetH Tryd.prog laid2 w) (fun _ _ _ hh h => h.of_heap hh) own started (by kernel_rfl) Tryd.func9
    (ChangeSpec.witness_shaped (enc := enc) (C := Tryd.checked) (os := os) (X := fun w _ => laidMetH Tryd.prog laid2 w) false (World.doorLaid Tryd.prog 19 os) #[.agg #[.int .u64 0, .int .u64 0], .int .u8 0, .slice none 0 0] 8 rfl (World.shaped_of_RefB (by kernel_rfl) (by kernel_rfl)) (by kernel_rfl) (by kernel_rfl) (by kernel_rfl)
      (door_met os _)) ?_
  intro W base args ds gs before hval0 hW _ hwt hL hsz
  have hval : ∀ (j : Nat) t v, Tryd.f9.params[j]? = some t → args[j]? = some v → Value.okWide Tryd.prog W .any base t v := hval0
  have hW' := hW
  obtain ⟨p, q, hA0, hV, rfl, hfz, hnd⟩ := hW
  have hA : DataW.TrodAll enc Tryd.prog W 0 (fun _ => true) true Tryd.f9.params.toList args.toList ds p := hA0
  rw [Tryd.params9] at hA hval
  obtain ⟨v0, vs0, d0, ds0, p0, q0, hargs, rfl, rfl, h0, r0⟩ := trodAll_cons hA
  obtain ⟨v1, vs1, d1, ds1, p1, q1, rfl, rfl, rfl, h1, r1⟩ := trodAll_cons r0
  obtain ⟨v2, vs2, d2, ds2, p2, q2, rfl, rfl, rfl, h2, r2⟩ := trodAll_cons r1
  obtain ⟨rfl, rfl, rfl⟩ := trodAll_nil r2
  obtain rfl : args = #[v0, v1, v2] := by cases args; simp_all
  obtain ⟨x0, y0, l0⟩ := a_vec (own := none) (hval 0 24 v0 rfl rfl) h0
  obtain ⟨x1, l1⟩ := arg_u8 (own := none) Tryd.underlying5 (hval 1 5 v1 rfl rfl) h1
  obtain ⟨x2, l2, z2⟩ := arg_sl64w Tryd.underlying45 Tryd.underlying22 (by kernel_rfl) (hval 2 45 v2 rfl rfl) h2
  refine (call_true fresh9 (ds := [vec x0 y0, .u8 x1, x2]) (by rcases z2 with rfl | ⟨_, rfl⟩ | ⟨l, rfl, _, els, sp, hd, hle⟩ <;> first | rfl | (refine decide_eq_true ?_; have hb := sized_at (els := els) (sp := sp) (j := 2) (t := 45) hwt rfl (congrArg some hd) Tryd.underlying45; have hc : Tryd.checked.prog.bytesOf 22 = 8 := (by kernel_rfl); rw [hc] at hb; omega)) (glob_of_laid hL) (by simp only [lie]; exact ⟨_, _, rfl, l0, _, _, rfl, l1, _, _, rfl, l2, rfl⟩) (by kernel_rfl)).mono fun e W' ⟨he, hb⟩ => ?_
  subst he
  exact ⟨_, rfl, post_law hW' hb laidOut (by kernel_rfl) rfl (by kernel_rfl) Tryd.underlying4 rfl⟩

theorem holds : Rows.LanesFreshSaid :=
  OpenClaim.holds_of_wide 9 Tryd.f9 rfl rfl rfl rfl rfl rfl rfl ⟨rfl, rfl, rfl, rfl, rfl⟩ rfl rfl rfl rfl rfl (by kernel_rfl) Tryd.func9 (by kernel_rfl)
    (of_decide_eq_true (by kernel_rfl)) (by unfold Func.isWrapper; first | (rw [if_pos (by decide +kernel)]; kernel_rfl) | (rw [if_neg (by decide +kernel)]; exact ⟨rfl, rfl⟩))
    (fun os started H enc _ => lifted os started H enc)
end Go.Proofs.YtlcgkcnknjflpaaDoor.lanesFresh
namespace Go.Proofs.YtlcgkcnknjflpaaDoor
open Go

theorem lanesFreshCard_holds : Rows.LanesFreshCardSaid :=
  Claim7.holds_tied_plain_at .later [] [.data, .data] true (true, "50ea534d770c8cfc81d586210a578b6d85cee496650c1b3e9dbfd250a1c6ca86") false
    lanesFresh.holds (fun _ h => by cases h) (by kernel_rfl) (fun _ h => by cases h) lanesFresh_row_tie rfl ⟨rfl, rfl⟩ (by kernel_rfl) rfl
    (fun f fn hf hfn => by
      obtain rfl : f = 9 := Option.some.inj ((show Tryd.prog.funcNamed "jacquard/jacquardlaw06.LanesFresh" = some 9 by kernel_rfl).symm.trans hf) |>.symm
      obtain rfl : fn = Tryd.f9 := (Option.some.inj (Tryd.func9.symm.trans hfn)).symm
      exact ⟨by kernel_rfl, fun j t ht => by
        rw [Tryd.params9] at ht
        have hm : t ∈ [24, 5, 45] := by simpa using Array.mem_of_getElem? ht
        have hall : ([24, 5, 45].all fun u => !Tryd.prog.wantsStandIn u) = true := by kernel_rfl
        exact (show Tryd.prog.wantsStandIn t = false by simpa using List.all_eq_true.1 hall t hm)⟩)
    (by kernel_rfl)
#print axioms lanesFreshCard_holds
end Go.Proofs.YtlcgkcnknjflpaaDoor

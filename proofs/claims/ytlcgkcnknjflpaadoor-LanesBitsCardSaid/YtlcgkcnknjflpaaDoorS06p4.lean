/-
  PROVED HERE: the tied card of LanesBits, for every input: each operator bit by bit, and whether a bit is 1, are the document's. No conditions beyond the card's own.
-/
import Derived.Test.YtlcgkcnknjflpaaDoorS06i
import Derived.SevenTiedAt
set_option linter.unusedSimpArgs false
set_option linter.unusedVariables false
namespace Go.L06
open Go.Ev Go.Proofs Go.RowKit Go.Rt

theorem bits5 : Snd 5 (trueS fun | [.u8 _, .agg [.u64 _, .u64 _], .agg [.u64 _, .u64 _], .agg [.u64 _, .u64 _]] => true | _ => false) := by
  refine Sound.guard (execFn_sound (ann := fun _ => []) (TableOK.cons Bits19 (TableOK.cons Bits20 (TableOK.cons Any21 (TableOK.cons Any22 (TableOK.cons works17 TableOK.nil))))) mixed Tryd.func5 (by kernel_rfl) 50) fun ds d h => ?_
  simp only [Option.some.injEq, Prod.mk.injEq] at h
  obtain ⟨h, rfl⟩ := h
  split at h
  · rename_i o x0 x1 y0 y1 z0 z1
    have nf : ex [(19, BitsS), (20, BitsS), (21, AnyS), (22, AnyS), (17, worksS)] (fun _ => []) Tryd.f5 [.u8 o, vec x0 x1, vec y0 y1, vec z0 z1] some = if
          (ifF (okO o) (opW o x0 y0 z0) == ifF (okO o) (opW o x0 y0 z0) &&
              ifF (okO o) (opW o x1 y1 z1) == ifF (okO o) (opW o x1 y1 z1)) =
            true then
        if (errF (okO o) == errF (okO o)) = true then
          if (anyF x0 x1 == anyF x0 x1) = true then some (D.bool true) else some (D.bool false)
        else some (D.bool false)
      else some (D.bool false) := by kernel_rfl
    refine nf.trans ?_
    simp
  · cases h

end Go.L06
namespace Go.Proofs.YtlcgkcnknjflpaaDoor.lanesBits
open Go Go.L06 Go.Ev Go.RowKit Go.ChangeShapes Go.WideShapes Go.ChangeAt
set_option maxRecDepth 100000 in
theorem lifted (os : Os) (started : os.Started) (H : Type) (enc : TypeId × Value → H) :
    ReturnsInHanded {} Tryd.checked os 5 .any (fun w args => (Rows.lanesBitsSpec.pre enc Tryd.prog Tryd.f5 [] false w args ∧ laidMetH Tryd.prog laid2 w) ∧ sizedMet enc Tryd.prog Tryd.f5 (OpenSpec.ofChange Rows.lanesBitsSpec) false w args)
      (Rows.lanesBitsSpec.post enc Tryd.prog Tryd.f5 false true false false) := by
  refine returnsInHanded_of_change_and (C := Tryd.checked) (X := fun w _ => laidMetH Tryd.prog laid2 w) (fun _ _ _ hh h => h.of_heap hh) own started (by kernel_rfl) Tryd.func5
    (ChangeSpec.witness_shaped (enc := enc) (C := Tryd.checked) (os := os) (X := fun w _ => laidMetH Tryd.prog laid2 w) false (World.doorLaid Tryd.prog 19 os) #[.int .u8 0, .agg #[.int .u64 0, .int .u64 0], .agg #[.int .u64 0, .int .u64 0], .agg #[.int .u64 0, .int .u64 0]] 8 rfl (World.shaped_of_RefB (by kernel_rfl) (by kernel_rfl)) (by kernel_rfl) (by kernel_rfl) (by kernel_rfl)
      (door_met os _)) ?_
  intro W base args ds gs before hval0 hW _ _ hL hsz
  have hval : ∀ (j : Nat) t v, Tryd.f5.params[j]? = some t → args[j]? = some v → Value.okWide Tryd.prog W .any base t v := hval0
  have hW' := hW
  obtain ⟨p, q, hA0, hV, rfl, hfz, hnd⟩ := hW
  have hA : DataW.TrodAll enc Tryd.prog W 0 (fun _ => true) true Tryd.f5.params.toList args.toList ds p := hA0
  rw [Tryd.params5] at hA hval
  obtain ⟨v0, vs0, d0, ds0, p0, q0, hargs, rfl, rfl, h0, r0⟩ := trodAll_cons hA
  obtain ⟨v1, vs1, d1, ds1, p1, q1, rfl, rfl, rfl, h1, r1⟩ := trodAll_cons r0
  obtain ⟨v2, vs2, d2, ds2, p2, q2, rfl, rfl, rfl, h2, r2⟩ := trodAll_cons r1
  obtain ⟨v3, vs3, d3, ds3, p3, q3, rfl, rfl, rfl, h3, r3⟩ := trodAll_cons r2
  obtain ⟨rfl, rfl, rfl⟩ := trodAll_nil r3
  obtain rfl : args = #[v0, v1, v2, v3] := by cases args; simp_all
  obtain ⟨x0, l0⟩ := arg_u8 (own := none) Tryd.underlying35 (hval 0 35 v0 rfl rfl) h0
  obtain ⟨x1, y1, l1⟩ := a_vec (own := none) (hval 1 24 v1 rfl rfl) h1
  obtain ⟨x2, y2, l2⟩ := a_vec (own := none) (hval 2 24 v2 rfl rfl) h2
  obtain ⟨x3, y3, l3⟩ := a_vec (own := none) (hval 3 24 v3 rfl rfl) h3
  refine (call_true bits5 (ds := [.u8 x0, vec x1 y1, vec x2 y2, vec x3 y3]) rfl (glob_of_laid hL) (by simp only [lie]; exact ⟨_, _, rfl, l0, _, _, rfl, l1, _, _, rfl, l2, _, _, rfl, l3, rfl⟩) (by kernel_rfl)).mono fun e W' ⟨he, hb⟩ => ?_
  subst he
  exact ⟨_, rfl, post_law hW' hb laidOut (by kernel_rfl) rfl (by kernel_rfl) Tryd.underlying4 rfl⟩

theorem holds : Rows.LanesBitsSaid :=
  OpenClaim.holds_of_wide 5 Tryd.f5 rfl rfl rfl rfl rfl rfl rfl ⟨rfl, rfl, rfl, rfl, rfl⟩ rfl rfl rfl rfl rfl (by kernel_rfl) Tryd.func5 (by kernel_rfl)
    (of_decide_eq_true (by kernel_rfl)) (by unfold Func.isWrapper; first | (rw [if_pos (by decide +kernel)]; kernel_rfl) | (rw [if_neg (by decide +kernel)]; exact ⟨rfl, rfl⟩))
    (fun os started H enc _ => lifted os started H enc)
end Go.Proofs.YtlcgkcnknjflpaaDoor.lanesBits
namespace Go.Proofs.YtlcgkcnknjflpaaDoor
open Go

theorem lanesBitsCard_holds : Rows.LanesBitsCardSaid :=
  Claim7.holds_tied_plain_at .later [] [.data, .data] true (true, "50ea534d770c8cfc81d586210a578b6d85cee496650c1b3e9dbfd250a1c6ca86") false
    lanesBits.holds (fun _ h => by cases h) (by kernel_rfl) (fun _ h => by cases h) lanesBits_row_tie rfl ⟨rfl, rfl⟩ (by kernel_rfl) rfl
    (fun f fn hf hfn => by
      obtain rfl : f = 5 := Option.some.inj ((show Tryd.prog.funcNamed "jacquard/jacquardlaw06.LanesBits" = some 5 by kernel_rfl).symm.trans hf) |>.symm
      obtain rfl : fn = Tryd.f5 := (Option.some.inj (Tryd.func5.symm.trans hfn)).symm
      exact ⟨by kernel_rfl, fun j t ht => by
        rw [Tryd.params5] at ht
        have hm : t ∈ [35, 24, 24, 24] := by simpa using Array.mem_of_getElem? ht
        have hall : ([35, 24, 24, 24].all fun u => !Tryd.prog.wantsStandIn u) = true := by kernel_rfl
        exact (show Tryd.prog.wantsStandIn t = false by simpa using List.all_eq_true.1 hall t hm)⟩)
    (by kernel_rfl)
#print axioms lanesBitsCard_holds
end Go.Proofs.YtlcgkcnknjflpaaDoor

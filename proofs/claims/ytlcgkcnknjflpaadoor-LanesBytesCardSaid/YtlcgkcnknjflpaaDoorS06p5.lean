/-
  PROVED HERE: the tied card of LanesBytes, for every input: a vector's bytes, and the vector of bytes, are the document's. No conditions beyond the card's own.
-/
import Derived.Test.YtlcgkcnknjflpaaDoorS06f
import Derived.SevenTiedAt
set_option linter.unusedSimpArgs false
set_option linter.unusedVariables false
namespace Go.L06
open Go.Ev Go.Proofs Go.RowKit Go.Rt

theorem bytes7 : Snd 7 (trueS fun | [.agg [.u64 _, .u64 _], .a8 l] => decide (l.length = 16) | _ => false) := by
  refine Sound.guard (execFn_sound (ann := fun _ => []) (TableOK.cons bytes24 (TableOK.cons bytes25 (TableOK.cons ofBytes26 (TableOK.cons ofBytes27 (TableOK.cons works17 TableOK.nil))))) mixed Tryd.func7 (by kernel_rfl) 50) fun ds d h => ?_
  simp only [Option.some.injEq, Prod.mk.injEq] at h
  obtain ⟨h, rfl⟩ := h
  split at h
  · rename_i x y l
    have h := of_decide_eq_true h
    obtain ⟨b0, l0, rfl, h0⟩ := len_cons h
    obtain ⟨b1, l1, rfl, h1⟩ := len_cons h0
    obtain ⟨b2, l2, rfl, h2⟩ := len_cons h1
    obtain ⟨b3, l3, rfl, h3⟩ := len_cons h2
    obtain ⟨b4, l4, rfl, h4⟩ := len_cons h3
    obtain ⟨b5, l5, rfl, h5⟩ := len_cons h4
    obtain ⟨b6, l6, rfl, h6⟩ := len_cons h5
    obtain ⟨b7, l7, rfl, h7⟩ := len_cons h6
    obtain ⟨b8, l8, rfl, h8⟩ := len_cons h7
    obtain ⟨b9, l9, rfl, h9⟩ := len_cons h8
    obtain ⟨b10, l10, rfl, h10⟩ := len_cons h9
    obtain ⟨b11, l11, rfl, h11⟩ := len_cons h10
    obtain ⟨b12, l12, rfl, h12⟩ := len_cons h11
    obtain ⟨b13, l13, rfl, h13⟩ := len_cons h12
    obtain ⟨b14, l14, rfl, h14⟩ := len_cons h13
    obtain ⟨b15, l15, rfl, h15⟩ := len_cons h14
    obtain rfl := len_nil h15
    have nf : ex [(24, bytesS), (25, bytesS), (26, ofBytesS), (27, ofBytesS), (17, worksS)] (fun _ => []) Tryd.f7 [vec x y, .a8 [b0, b1, b2, b3, b4, b5, b6, b7, b8, b9, b10, b11, b12, b13, b14, b15]] some =
      if (bytesF x y == bytesF x y) = true then
        if (w8 b0 b1 b2 b3 b4 b5 b6 b7 == w8 b0 b1 b2 b3 b4 b5 b6 b7 && w8 b8 b9 b10 b11 b12 b13 b14 b15 == w8 b8 b9 b10 b11 b12 b13 b14 b15) = true then some (D.bool true) else some (D.bool false)
      else some (D.bool false) := by kernel_rfl
    refine nf.trans ?_
    simp
  · cases h

end Go.L06
namespace Go.Proofs.YtlcgkcnknjflpaaDoor.lanesBytes
open Go Go.L06 Go.Ev Go.RowKit Go.ChangeShapes Go.WideShapes Go.ChangeAt
set_option maxRecDepth 100000 in
theorem lifted (os : Os) (started : os.Started) (H : Type) (enc : TypeId × Value → H) :
    ReturnsInHanded {} Tryd.checked os 7 .any (fun w args => (Rows.lanesBytesSpec.pre enc Tryd.prog Tryd.f7 [] false w args ∧ laidMetH Tryd.prog laid2 w) ∧ sizedMet enc Tryd.prog Tryd.f7 (OpenSpec.ofChange Rows.lanesBytesSpec) false w args)
      (Rows.lanesBytesSpec.post enc Tryd.prog Tryd.f7 false true false false) := by
  refine returnsInHanded_of_change_and (C := Tryd.checked) (X := fun w _ => laidMetH Tryd.prog laid2 w) (fun _ _ _ hh h => h.of_heap hh) own started (by kernel_rfl) Tryd.func7
    (ChangeSpec.witness_shaped (enc := enc) (C := Tryd.checked) (os := os) (X := fun w _ => laidMetH Tryd.prog laid2 w) false (World.doorLaid Tryd.prog 19 os) #[.agg #[.int .u64 0, .int .u64 0], .agg #[.int .u8 0, .int .u8 0, .int .u8 0, .int .u8 0, .int .u8 0, .int .u8 0, .int .u8 0, .int .u8 0, .int .u8 0, .int .u8 0, .int .u8 0, .int .u8 0, .int .u8 0, .int .u8 0, .int .u8 0, .int .u8 0]] 8 rfl (World.shaped_of_RefB (by kernel_rfl) (by kernel_rfl)) (by kernel_rfl) (by kernel_rfl) (by kernel_rfl)
      (door_met os _)) ?_
  intro W base args ds gs before hval0 hW _ _ hL hsz
  have hval : ∀ (j : Nat) t v, Tryd.f7.params[j]? = some t → args[j]? = some v → Value.okWide Tryd.prog W .any base t v := hval0
  have hW' := hW
  obtain ⟨p, q, hA0, hV, rfl, hfz, hnd⟩ := hW
  have hA : DataW.TrodAll enc Tryd.prog W 0 (fun _ => true) true Tryd.f7.params.toList args.toList ds p := hA0
  rw [Tryd.params7] at hA hval
  obtain ⟨v0, vs0, d0, ds0, p0, q0, hargs, rfl, rfl, h0, r0⟩ := trodAll_cons hA
  obtain ⟨v1, vs1, d1, ds1, p1, q1, rfl, rfl, rfl, h1, r1⟩ := trodAll_cons r0
  obtain ⟨rfl, rfl, rfl⟩ := trodAll_nil r1
  obtain rfl : args = #[v0, v1] := by cases args; simp_all
  obtain ⟨x0, y0, l0⟩ := a_vec (own := none) (hval 0 24 v0 rfl rfl) h0
  obtain ⟨x1, z1, l1⟩ := arg_u8s (own := none) Tryd.underlying41 Tryd.underlying5 (by kernel_rfl) (by kernel_rfl) (hval 1 41 v1 rfl rfl) h1
  refine (call_true bytes7 (ds := [vec x0 y0, .a8 x1]) (by simp [z1]) (glob_of_laid hL) (by simp only [lie]; exact ⟨_, _, rfl, l0, _, _, rfl, l1, rfl⟩) (by kernel_rfl)).mono fun e W' ⟨he, hb⟩ => ?_
  subst he
  exact ⟨_, rfl, post_law hW' hb laidOut (by kernel_rfl) rfl (by kernel_rfl) Tryd.underlying4 rfl⟩

theorem holds : Rows.LanesBytesSaid :=
  OpenClaim.holds_of_wide 7 Tryd.f7 rfl rfl rfl rfl rfl rfl rfl ⟨rfl, rfl, rfl, rfl, rfl⟩ rfl rfl rfl rfl rfl (by kernel_rfl) Tryd.func7 (by kernel_rfl)
    (of_decide_eq_true (by kernel_rfl)) (by unfold Func.isWrapper; first | (rw [if_pos (by decide +kernel)]; kernel_rfl) | (rw [if_neg (by decide +kernel)]; exact ⟨rfl, rfl⟩))
    (fun os started H enc _ => lifted os started H enc)
end Go.Proofs.YtlcgkcnknjflpaaDoor.lanesBytes
namespace Go.Proofs.YtlcgkcnknjflpaaDoor
open Go

theorem lanesBytesCard_holds : Rows.LanesBytesCardSaid :=
  Claim7.holds_tied_plain_at .later [] [.data, .data] true (true, "50ea534d770c8cfc81d586210a578b6d85cee496650c1b3e9dbfd250a1c6ca86") false
    lanesBytes.holds (fun _ h => by cases h) (by kernel_rfl) (fun _ h => by cases h) lanesBytes_row_tie rfl ⟨rfl, rfl⟩ (by kernel_rfl) rfl
    (fun f fn hf hfn => by
      obtain rfl : f = 7 := Option.some.inj ((show Tryd.prog.funcNamed "jacquard/jacquardlaw06.LanesBytes" = some 7 by kernel_rfl).symm.trans hf) |>.symm
      obtain rfl : fn = Tryd.f7 := (Option.some.inj (Tryd.func7.symm.trans hfn)).symm
      exact ⟨by kernel_rfl, fun j t ht => by
        rw [Tryd.params7] at ht
        have hm : t ∈ [24, 41] := by simpa using Array.mem_of_getElem? ht
        have hall : ([24, 41].all fun u => !Tryd.prog.wantsStandIn u) = true := by kernel_rfl
        exact (show Tryd.prog.wantsStandIn t = false by simpa using List.all_eq_true.1 hall t hm)⟩)
    (by kernel_rfl)
#print axioms lanesBytesCard_holds
end Go.Proofs.YtlcgkcnknjflpaaDoor

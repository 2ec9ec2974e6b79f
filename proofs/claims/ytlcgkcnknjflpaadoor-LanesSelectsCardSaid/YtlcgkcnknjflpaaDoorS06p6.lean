/-
  PROVED HERE: the tied card of LanesSelects, for every input: to select is to have the one where the mask is, and the other one where it is not; not, and, or fit together. No conditions beyond the card's own.
-/
import Derived.Test.YtlcgkcnknjflpaaDoorS06i
import Derived.SevenTiedAt
set_option linter.unusedSimpArgs false
set_option linter.unusedVariables false
namespace Go.L06
open Go.Ev Go.Proofs Go.RowKit Go.Rt

theorem selects6 : Snd 6 (trueS fun | [.agg [.u64 _, .u64 _], .agg [.u64 _, .u64 _], .agg [.u64 _, .u64 _]] => true | _ => false) := by
  refine Sound.guard (execFn_sound (ann := fun _ => []) (TableOK.cons Bits19 (TableOK.cons Any21 (TableOK.cons works17 (TableOK.cons Spl23 TableOK.nil)))) mixed Tryd.func6 (by kernel_rfl) 50) fun ds d h => ?_
  simp only [Option.some.injEq, Prod.mk.injEq] at h
  obtain ⟨h, rfl⟩ := h
  split at h
  · rename_i x0 x1 y0 y1 z0 z1
    have nf : ex [(19, BitsS), (21, AnyS), (17, worksS), (23, SplS)] (fun _ => []) Tryd.f6 [vec x0 x1, vec y0 y1, vec z0 z1] some = if
          (opW 6#8 x0 y0 z0 == (x0 &&& z0 ||| y0 &&& ~~~z0) && opW 6#8 x1 y1 z1 == (x1 &&& z1 ||| y1 &&& ~~~z1)) = true then
        if (!anyF (x0 &&& ~~~x0) (x1 &&& ~~~x1)) = true then
          if (x0 ^^^ ~~~x0 == 18446744073709551615#64 && x1 ^^^ ~~~x1 == 18446744073709551615#64) = true then
            if anyF (x0 ^^^ ~~~x0) (x1 ^^^ ~~~x1) = true then some (D.bool true) else some (D.bool false)
          else some (D.bool false)
        else some (D.bool false)
      else some (D.bool false) := by kernel_rfl
    refine nf.trans ?_
    have e0 : ∀ x : BitVec 64, x &&& ~~~x = 0#64 := fun x => by
      apply BitVec.eq_of_getLsbD_eq
      intro j hj
      simp [hj]
    have e1 : ∀ x : BitVec 64, x ^^^ ~~~x = 18446744073709551615#64 := fun x => by
      have : (18446744073709551615#64) = BitVec.allOnes 64 := by decide
      rw [this]
      apply BitVec.eq_of_getLsbD_eq
      intro j hj
      rw [BitVec.getLsbD_xor, BitVec.getLsbD_not, BitVec.getLsbD_allOnes]
      cases x.getLsbD j <;> simp [hj]
    have e6 : ∀ x y z : BitVec 64, opW 6#8 x y z = (x &&& z ||| y &&& ~~~z) := fun _ _ _ => rfl
    have a0 : anyF 0#64 0#64 = false := by decide
    have a1 : anyF 18446744073709551615#64 18446744073709551615#64 = true := by decide
    rw [e0, e0, e1, e1, e6, e6, a0, a1]
    simp
  · cases h

end Go.L06
namespace Go.Proofs.YtlcgkcnknjflpaaDoor.lanesSelects
open Go Go.L06 Go.Ev Go.RowKit Go.ChangeShapes Go.WideShapes Go.ChangeAt
set_option maxRecDepth 100000 in
theorem lifted (os : Os) (started : os.Started) (H : Type) (enc : TypeId × Value → H) :
    ReturnsInHanded {} Tryd.checked os 6 .any (fun w args => (Rows.lanesSelectsSpec.pre enc Tryd.prog Tryd.f6 [] false w args ∧ laidMetH Tryd.prog laid2 w) ∧ sizedMet enc Tryd.prog Tryd.f6 (OpenSpec.ofChange Rows.lanesSelectsSpec) false w args)
      (Rows.lanesSelectsSpec.post enc Tryd.prog Tryd.f6 false true false false) := by
  refine returnsInHanded_of_change_and (C := Tryd.checked) (X := fun w _ => laidMetH Tryd.prog laid2 w) (fun _ _ _ hh h => h.of_heap hh) own started (by kernel_rfl) Tryd.func6
    (ChangeSpec.witness_shaped (enc := enc) (C := Tryd.checked) (os := os) (X := fun w _ => laidMetH Tryd.prog laid2 w) false (World.doorLaid Tryd.prog 19 os) #[.agg #[.int .u64 0, .int .u64 0], .agg #[.int .u64 0, .int .u64 0], .agg #[.int .u64 0, .int .u64 0]] 8 rfl (World.shaped_of_RefB (by kernel_rfl) (by kernel_rfl)) (by kernel_rfl) (by kernel_rfl) (by kernel_rfl)
      (door_met os _)) ?_
  intro W base args ds gs before hval0 hW _ _ hL hsz
  have hval : ∀ (j : Nat) t v, Tryd.f6.params[j]? = some t → args[j]? = some v → Value.okWide Tryd.prog W .any base t v := hval0
  have hW' := hW
  obtain ⟨p, q, hA0, hV, rfl, hfz, hnd⟩ := hW
  have hA : DataW.TrodAll enc Tryd.prog W 0 (fun _ => true) true Tryd.f6.params.toList args.toList ds p := hA0
  rw [Tryd.params6] at hA hval
  obtain ⟨v0, vs0, d0, ds0, p0, q0, hargs, rfl, rfl, h0, r0⟩ := trodAll_cons hA
  obtain ⟨v1, vs1, d1, ds1, p1, q1, rfl, rfl, rfl, h1, r1⟩ := trodAll_cons r0
  obtain ⟨v2, vs2, d2, ds2, p2, q2, rfl, rfl, rfl, h2, r2⟩ := trodAll_cons r1
  obtain ⟨rfl, rfl, rfl⟩ := trodAll_nil r2
  obtain rfl : args = #[v0, v1, v2] := by cases args; simp_all
  obtain ⟨x0, y0, l0⟩ := a_vec (own := none) (hval 0 24 v0 rfl rfl) h0
  obtain ⟨x1, y1, l1⟩ := a_vec (own := none) (hval 1 24 v1 rfl rfl) h1
  obtain ⟨x2, y2, l2⟩ := a_vec (own := none) (hval 2 24 v2 rfl rfl) h2
  refine (call_true selects6 (ds := [vec x0 y0, vec x1 y1, vec x2 y2]) rfl (glob_of_laid hL) (by simp only [lie]; exact ⟨_, _, rfl, l0, _, _, rfl, l1, _, _, rfl, l2, rfl⟩) (by kernel_rfl)).mono fun e W' ⟨he, hb⟩ => ?_
  subst he
  exact ⟨_, rfl, post_law hW' hb laidOut (by kernel_rfl) rfl (by kernel_rfl) Tryd.underlying4 rfl⟩

theorem holds : Rows.LanesSelectsSaid :=
  OpenClaim.holds_of_wide 6 Tryd.f6 rfl rfl rfl rfl rfl rfl rfl ⟨rfl, rfl, rfl, rfl, rfl⟩ rfl rfl rfl rfl rfl (by kernel_rfl) Tryd.func6 (by kernel_rfl)
    (of_decide_eq_true (by kernel_rfl)) (by unfold Func.isWrapper; first | (rw [if_pos (by decide +kernel)]; kernel_rfl) | (rw [if_neg (by decide +kernel)]; exact ⟨rfl, rfl⟩))
    (fun os started H enc _ => lifted os started H enc)
end Go.Proofs.YtlcgkcnknjflpaaDoor.lanesSelects
namespace Go.Proofs.YtlcgkcnknjflpaaDoor
open Go

theorem lanesSelectsCard_holds : Rows.LanesSelectsCardSaid :=
  Claim7.holds_tied_plain_at .later [] [.data, .data] true (true, "50ea534d770c8cfc81d586210a578b6d85cee496650c1b3e9dbfd250a1c6ca86") false
    lanesSelects.holds (fun _ h => by cases h) (by kernel_rfl) (fun _ h => by cases h) lanesSelects_row_tie rfl ⟨rfl, rfl⟩ (by kernel_rfl) rfl
    (fun f fn hf hfn => by
      obtain rfl : f = 6 := Option.some.inj ((show Tryd.prog.funcNamed "jacquard/jacquardlaw06.LanesSelects" = some 6 by kernel_rfl).symm.trans hf) |>.symm
      obtain rfl : fn = Tryd.f6 := (Option.some.inj (Tryd.func6.symm.trans hfn)).symm
      exact ⟨by kernel_rfl, fun j t ht => by
        rw [Tryd.params6] at ht
        have hm : t ∈ [24, 24, 24] := by simpa using Array.mem_of_getElem? ht
        have hall : ([24, 24, 24].all fun u => !Tryd.prog.wantsStandIn u) = true := by kernel_rfl
        exact (show Tryd.prog.wantsStandIn t = false by simpa using List.all_eq_true.1 hall t hm)⟩)
    (by kernel_rfl)
#print axioms lanesSelectsCard_holds
end Go.Proofs.YtlcgkcnknjflpaaDoor

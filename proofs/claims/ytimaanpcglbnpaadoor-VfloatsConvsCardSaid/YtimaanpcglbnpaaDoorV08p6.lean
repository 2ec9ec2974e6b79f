/-
  PROVED HERE: the tied card of VfloatsConvs, for every input: lanes are cut, held, and made floats, as the document says, or its error. No conditions beyond the card's own.
-/
import Derived.Test.YtimaanpcglbnpaaDoorW08c
import Derived.Test.YtimaanpcglbnpaaDoorW08d
import Derived.Test.YtimaanpcglbnpaaDoorS08r
import Derived.SevenTiedAt
set_option linter.unusedSimpArgs false
set_option linter.unusedVariables false
namespace Go.L08
open Go.L08F (WV CV CE twoG thanG)
open Go.Ev Go.Proofs Go.RowKit Go.Wh Go.Fl

theorem nf6 (P Q : PC) (E : Int → Int) (P2 Q2 : PC) (E2 : Int → Int) (w : Int) (s : Bool) (a0 a1 : BitVec 64) : ex [(18, VcG P Q E), (19, VcG P Q E), (20, VcG P2 Q2 E2), (21, VcG P2 Q2 E2), (11, wkS)] (fun _ => []) Tryd.f6 [.i .i64 w, .bool s, vec a0 a1] some =
  if (P w s a0 a1 == P w s a0 a1 && Q w s a0 a1 == Q w s a0 a1) = true then if (E w == E w) = true then if (P2 w s a0 a1 == P2 w s a0 a1 && Q2 w s a0 a1 == Q2 w s a0 a1) = true then if (E2 w == E2 w) = true then some (.bool true) else some (.bool false) else some (.bool false) else some (.bool false) else some (.bool false) := by kernel_rfl
theorem vfloatsConvs_s : Snd 6 (trueS fun | [.i .i64 _, .bool _, .agg [.u64 _, .u64 _]] => true | _ => false) := by
  refine Sound.guard (execFn_sound (ann := fun _ => []) (TableOK.cons v_cut (TableOK.cons v_rcut (TableOK.cons v_flt (TableOK.cons v_rflt (TableOK.cons t_wk TableOK.nil))))) mixed Tryd.func6 (by kernel_rfl) 50) fun ds d h => ?_
  simp only [Option.some.injEq, Prod.mk.injEq] at h
  obtain ⟨h, rfl⟩ := h
  split at h
  · rename_i w s a0 a1
    refine (nf6 (cuP L08C.hV) (cuQ L08C.hV) vcE (flP L08C.fV) (flQ L08C.fV) vcE w s a0 a1).trans ?_
    simp
  · cases h

end Go.L08
namespace Go.Proofs.YtimaanpcglbnpaaDoor.vfloatsConvs
open Go Go.L08 Go.Ev Go.RowKit Go.ChangeShapes Go.WideShapes Go.ChangeAt
set_option maxRecDepth 100000 in
theorem lifted (os : Os) (started : os.Started) (H : Type) (enc : TypeId × Value → H) :
    ReturnsInHanded {} Tryd.checked os 6 .any (fun w args => (Rows.vfloatsConvsSpec.pre enc Tryd.prog Tryd.f6 [] false w args ∧ laidMetH Tryd.prog laid2 w) ∧ sizedMet enc Tryd.prog Tryd.f6 (OpenSpec.ofChange Rows.vfloatsConvsSpec) false w args)
      (Rows.vfloatsConvsSpec.post enc Tryd.prog Tryd.f6 false true false false) := by
  refine returnsInHanded_of_change_and (C := Tryd.checked) (X := fun w _ => laidMetH Tryd.prog laid2 w) (fun _ _ _ hh h => h.of_heap hh) own started (by kernel_rfl) Tryd.func6
    (ChangeSpec.witness_shaped (enc := enc) (C := Tryd.checked) (os := os) (X := fun w _ => laidMetH Tryd.prog laid2 w) false (World.doorLaid Tryd.prog 19 os) #[.int .i64 0, .bool false, .agg #[.int .u64 0, .int .u64 0]] 8 rfl (World.shaped_of_RefB (by kernel_rfl) (by kernel_rfl)) (by kernel_rfl) (by kernel_rfl) (by kernel_rfl)
      (door_met os _)) ?_
  intro W base args ds gs before hval0 hW _ hwt hL hsz
  have hval : ∀ (j : Nat) t v, Tryd.f6.params[j]? = some t → args[j]? = some v → Value.okWide Tryd.prog W .any base t v := hval0
  have hW' := hW
  obtain ⟨p, q, hA0, hV, rfl, hfz, hnd⟩ := hW
  have hA : DataW.TrodAll enc Tryd.prog W 0 (fun _ => true) true Tryd.f6.params.toList args.toList ds p := hA0
  rw [Tryd.params6] at hA hval
  obtain ⟨v0, vs0, d0, ds0, p0, q0, hargs, rfl, rfl, h0, r0⟩ := trodAll_cons hA
  obtain ⟨v1, vs1, d1, ds1, p1, q1, rfl, rfl, rfl, h1, r1⟩ := trodAll_cons r0
  obtain ⟨v2, vs2, d2, ds2, p2, q2, rfl, rfl, rfl, h2, r2⟩ := trodAll_cons r1
  obtain ⟨rfl, rfl, rfl⟩ := trodAll_nil r2
  obtain rfl : args = #[v0, v1, v2] := by cases args; simp_all
  obtain ⟨n0, l0, w0⟩ := arg_i64 (own := none) Tryd.underlying3 (hval 0 3 v0 rfl rfl) h0
  obtain ⟨x1, l1⟩ := arg_bool (own := none) Tryd.underlying4 (hval 1 4 v1 rfl rfl) h1
  obtain ⟨x2, y2, l2⟩ := a_vec (own := none) (hval 2 25 v2 rfl rfl) h2
  refine (call_true vfloatsConvs_s (ds := [.i .i64 n0, .bool x1, vec x2 y2]) rfl (glob_of_laid hL) (by simp only [lie]; exact ⟨_, _, rfl, l0, _, _, rfl, l1, _, _, rfl, l2, rfl⟩) (by kernel_rfl)).mono fun e W' ⟨he, hb⟩ => ?_
  subst he
  exact ⟨_, rfl, post_law hW' hb laidOut (by kernel_rfl) rfl (by kernel_rfl) Tryd.underlying4 rfl⟩

theorem holds : Rows.VfloatsConvsSaid :=
  OpenClaim.holds_of_wide 6 Tryd.f6 rfl rfl rfl rfl rfl rfl rfl ⟨rfl, rfl, rfl, rfl, rfl⟩ rfl rfl rfl rfl rfl (by kernel_rfl) Tryd.func6 (by kernel_rfl)
    (of_decide_eq_true (by kernel_rfl)) (by unfold Func.isWrapper; first | (rw [if_pos (by decide +kernel)]; kernel_rfl) | (rw [if_neg (by decide +kernel)]; exact ⟨rfl, rfl⟩))
    (fun os started H enc _ => lifted os started H enc)
end Go.Proofs.YtimaanpcglbnpaaDoor.vfloatsConvs
namespace Go.Proofs.YtimaanpcglbnpaaDoor
open Go

theorem vfloatsConvsCard_holds : Rows.VfloatsConvsCardSaid :=
  Claim7.holds_tied_plain_at .later [] [.data, .data] true (true, "ac3ce149d828802affa243c6663a7993141ffac6c5f9ff569bc159c5855f6d6c") false
    vfloatsConvs.holds (fun _ h => by cases h) (by kernel_rfl) (fun _ h => by cases h) vfloatsConvs_row_tie rfl ⟨rfl, rfl⟩ (by kernel_rfl) rfl
    (fun f fn hf hfn => by
      obtain rfl : f = 6 := Option.some.inj ((show Tryd.prog.funcNamed "jacquard/jacquardlaw08.VfloatsConvs" = some 6 by kernel_rfl).symm.trans hf) |>.symm
      obtain rfl : fn = Tryd.f6 := (Option.some.inj (Tryd.func6.symm.trans hfn)).symm
      exact ⟨by kernel_rfl, fun j t ht => by
        rw [Tryd.params6] at ht
        have hm : t ∈ [3, 4, 25] := by simpa using Array.mem_of_getElem? ht
        have hall : ([3, 4, 25].all fun u => !Tryd.prog.wantsStandIn u) = true := by kernel_rfl
        exact (show Tryd.prog.wantsStandIn t = false by simpa using List.all_eq_true.1 hall t hm)⟩)
    (by kernel_rfl)
#print axioms vfloatsConvsCard_holds
end Go.Proofs.YtimaanpcglbnpaaDoor

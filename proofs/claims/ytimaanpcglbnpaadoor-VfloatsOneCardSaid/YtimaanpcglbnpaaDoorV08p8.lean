/-
  PROVED HERE: the tied card of VfloatsOne, for every input: each operator of one, lane by lane, is the document's, or its error. No conditions beyond the card's own.
-/
import Derived.Test.YtimaanpcglbnpaaDoorW08c
import Derived.Test.YtimaanpcglbnpaaDoorW08e
import Derived.Test.YtimaanpcglbnpaaDoorS08r
import Derived.SevenTiedAt
set_option linter.unusedSimpArgs false
set_option linter.unusedVariables false
namespace Go.L08
open Go.L08F (WV CV CE twoG thanG)
open Go.Ev Go.Proofs Go.RowKit Go.Wh Go.Fl

theorem nf8 (P Q : B2y) (E : E2y) (o : BitVec 8) (w : Int) (a0 a1 : BitVec 64) : ex [(24, V1G P Q E), (25, V1G P Q E), (11, wkS)] (fun _ => []) Tryd.f8 [.u8 o, .i .i64 w, vec a0 a1] some =
  if (P o w a0 a1 == P o w a0 a1 && Q o w a0 a1 == Q o w a0 a1) = true then if (E o w a0 a1 == E o w a0 a1) = true then some (.bool true) else some (.bool false) else some (.bool false) := by kernel_rfl
theorem vfloatsOne_s : Snd 8 (trueS fun | [.u8 _, .i .i64 _, .agg [.u64 _, .u64 _]] => true | _ => false) := by
  refine Sound.guard (execFn_sound (ann := fun _ => []) (TableOK.cons v_one (TableOK.cons v_rone (TableOK.cons t_wk TableOK.nil))) mixed Tryd.func8 (by kernel_rfl) 50) fun ds d h => ?_
  simp only [Option.some.injEq, Prod.mk.injEq] at h
  obtain ⟨h, rfl⟩ := h
  split at h
  · rename_i o w a0 a1
    refine (nf8 pU qU eU o w a0 a1).trans ?_
    simp
  · cases h

end Go.L08
namespace Go.Proofs.YtimaanpcglbnpaaDoor.vfloatsOne
open Go Go.L08 Go.Ev Go.RowKit Go.ChangeShapes Go.WideShapes Go.ChangeAt
set_option maxRecDepth 100000 in
theorem lifted (os : Os) (started : os.Started) (H : Type) (enc : TypeId × Value → H) :
    ReturnsInHanded {} Tryd.checked os 8 .any (fun w args => (Rows.vfloatsOneSpec.pre enc Tryd.prog Tryd.f8 [] false w args ∧ laidMetH Tryd.prog laid2 w) ∧ sizedMet enc Tryd.prog Tryd.f8 (OpenSpec.ofChange Rows.vfloatsOneSpec) false w args)
      (Rows.vfloatsOneSpec.post enc Tryd.prog Tryd.f8 false true false false) := by
  refine returnsInHanded_of_change_and (C := Tryd.checked) (X := fun w _ => laidMetH Tryd.prog laid2 w) (fun _ _ _ hh h => h.of_heap hh) own started (by kernel_rfl) Tryd.func8
    (ChangeSpec.witness_shaped (enc := enc) (C := Tryd.checked) (os := os) (X := fun w _ => laidMetH Tryd.prog laid2 w) false (World.doorLaid Tryd.prog 19 os) #[.int .u8 0, .int .i64 0, .agg #[.int .u64 0, .int .u64 0]] 8 rfl (World.shaped_of_RefB (by kernel_rfl) (by kernel_rfl)) (by kernel_rfl) (by kernel_rfl) (by kernel_rfl)
      (door_met os _)) ?_
  intro W base args ds gs before hval0 hW _ hwt hL hsz
  have hval : ∀ (j : Nat) t v, Tryd.f8.params[j]? = some t → args[j]? = some v → Value.okWide Tryd.prog W .any base t v := hval0
  have hW' := hW
  obtain ⟨p, q, hA0, hV, rfl, hfz, hnd⟩ := hW
  have hA : DataW.TrodAll enc Tryd.prog W 0 (fun _ => true) true Tryd.f8.params.toList args.toList ds p := hA0
  rw [Tryd.params8] at hA hval
  obtain ⟨v0, vs0, d0, ds0, p0, q0, hargs, rfl, rfl, h0, r0⟩ := trodAll_cons hA
  obtain ⟨v1, vs1, d1, ds1, p1, q1, rfl, rfl, rfl, h1, r1⟩ := trodAll_cons r0
  obtain ⟨v2, vs2, d2, ds2, p2, q2, rfl, rfl, rfl, h2, r2⟩ := trodAll_cons r1
  obtain ⟨rfl, rfl, rfl⟩ := trodAll_nil r2
  obtain rfl : args = #[v0, v1, v2] := by cases args; simp_all
  obtain ⟨x0, l0⟩ := arg_u8 (own := none) Tryd.underlying22 (hval 0 22 v0 rfl rfl) h0
  obtain ⟨n1, l1, w1⟩ := arg_i64 (own := none) Tryd.underlying3 (hval 1 3 v1 rfl rfl) h1
  obtain ⟨x2, y2, l2⟩ := a_vec (own := none) (hval 2 25 v2 rfl rfl) h2
  refine (call_true vfloatsOne_s (ds := [.u8 x0, .i .i64 n1, vec x2 y2]) rfl (glob_of_laid hL) (by simp only [lie]; exact ⟨_, _, rfl, l0, _, _, rfl, l1, _, _, rfl, l2, rfl⟩) (by kernel_rfl)).mono fun e W' ⟨he, hb⟩ => ?_
  subst he
  exact ⟨_, rfl, post_law hW' hb laidOut (by kernel_rfl) rfl (by kernel_rfl) Tryd.underlying4 rfl⟩

theorem holds : Rows.VfloatsOneSaid :=
  OpenClaim.holds_of_wide 8 Tryd.f8 rfl rfl rfl rfl rfl rfl rfl ⟨rfl, rfl, rfl, rfl, rfl⟩ rfl rfl rfl rfl rfl (by kernel_rfl) Tryd.func8 (by kernel_rfl)
    (of_decide_eq_true (by kernel_rfl)) (by unfold Func.isWrapper; first | (rw [if_pos (by decide +kernel)]; kernel_rfl) | (rw [if_neg (by decide +kernel)]; exact ⟨rfl, rfl⟩))
    (fun os started H enc _ => lifted os started H enc)
end Go.Proofs.YtimaanpcglbnpaaDoor.vfloatsOne
namespace Go.Proofs.YtimaanpcglbnpaaDoor
open Go

theorem vfloatsOneCard_holds : Rows.VfloatsOneCardSaid :=
  Claim7.holds_tied_plain_at .later [] [.data, .data] true (true, "ac3ce149d828802affa243c6663a7993141ffac6c5f9ff569bc159c5855f6d6c") false
    vfloatsOne.holds (fun _ h => by cases h) (by kernel_rfl) (fun _ h => by cases h) vfloatsOne_row_tie rfl ⟨rfl, rfl⟩ (by kernel_rfl) rfl
    (fun f fn hf hfn => by
      obtain rfl : f = 8 := Option.some.inj ((show Tryd.prog.funcNamed "jacquard/jacquardlaw08.VfloatsOne" = some 8 by kernel_rfl).symm.trans hf) |>.symm
      obtain rfl : fn = Tryd.f8 := (Option.some.inj (Tryd.func8.symm.trans hfn)).symm
      exact ⟨by kernel_rfl, fun j t ht => by
        rw [Tryd.params8] at ht
        have hm : t ∈ [22, 3, 25] := by simpa using Array.mem_of_getElem? ht
        have hall : ([22, 3, 25].all fun u => !Tryd.prog.wantsStandIn u) = true := by kernel_rfl
        exact (show Tryd.prog.wantsStandIn t = false by simpa using List.all_eq_true.1 hall t hm)⟩)
    (by kernel_rfl)
#print axioms vfloatsOneCard_holds
end Go.Proofs.YtimaanpcglbnpaaDoor

/-
  PROVED HERE: the tied card of IntsWidths, for every input: numbers are extended and narrowed as the document says, or its error. No conditions beyond the card's own.
-/
import Derived.Test.YtakonchpkchfhaaDoorS03d
import Derived.SevenTiedAt
set_option linter.unusedSimpArgs false
set_option linter.unusedVariables false
namespace Go.L03
open Go.Ev Go.Proofs Go.RowKit Go.Wh

theorem nf9 (f t : Int) (s : Bool) (a : BitVec 64) : ex [(21, ExtS), (22, ExtS), (23, NarS), (24, NarS), (15, worksS)] (fun _ => []) Tryd.f9 [.i .i64 f, .i .i64 t, .bool s, .u64 a] some =
  if (ifF (okE f t a) (extF f t s a) == ifF (okE f t a) (extF f t s a)) = true then
    if (errF (okE f t a) == errF (okE f t a)) = true then
      if (ifF (okN f t a) (narF f t s a) == ifF (okN f t a) (narF f t s a)) = true then
        if (errF (okN f t a) == errF (okN f t a)) = true then some (D.bool true) else some (D.bool false)
      else some (D.bool false)
    else some (D.bool false)
  else some (D.bool false) := by kernel_rfl
theorem widths9 : Snd 9 (trueS fun | [.i .i64 _, .i .i64 _, .bool _, .u64 _] => true | _ => false) := by
  refine Sound.guard (execFn_sound (ann := fun _ => []) (TableOK.cons t_Extend (TableOK.cons t_rExtend (TableOK.cons t_Narrow (TableOK.cons t_rNarrow (TableOK.cons t_works TableOK.nil))))) mixed Tryd.func9 (by kernel_rfl) 50) fun ds d h => ?_
  simp only [Option.some.injEq, Prod.mk.injEq] at h
  obtain ⟨h, rfl⟩ := h
  split at h
  · rename_i f t s a
    refine (nf9 f t s a).trans ?_
    simp
  · cases h

end Go.L03
namespace Go.Proofs.YtakonchpkchfhaaDoor.intsWidths
open Go Go.L03 Go.Ev Go.RowKit Go.ChangeShapes Go.WideShapes Go.ChangeAt
set_option maxRecDepth 100000 in
theorem lifted (os : Os) (started : os.Started) (H : Type) (enc : TypeId × Value → H) :
    ReturnsInHanded {} Tryd.checked os 9 .any (fun w args => (Rows.intsWidthsSpec.pre enc Tryd.prog Tryd.f9 [] false w args ∧ laidMetH Tryd.prog laid2 w) ∧ sizedMet enc Tryd.prog Tryd.f9 (OpenSpec.ofChange Rows.intsWidthsSpec) false w args)
      (Rows.intsWidthsSpec.post enc Tryd.prog Tryd.f9 false true false false) := by
  refine returnsInHanded_of_change_and (C := Tryd.checked) (X := fun w _ => laidMetH Tryd.prog laid2 w) (fun _ _ _ hh h => h.of_heap hh) own started (by kernel_rfl) Tryd.func9
    (ChangeSpec.witness_shaped (enc := enc) (C := Tryd.checked) (os := os) (X := fun w _ => laidMetH Tryd.prog laid2 w) false (World.doorLaid Tryd.prog 19 os) #[.int .i64 0, .int .i64 0, .bool false, .int .u64 0] 8 rfl (World.shaped_of_RefB (by kernel_rfl) (by kernel_rfl)) (by kernel_rfl) (by kernel_rfl) (by kernel_rfl)
      (door_met os _)) ?_
  intro W base args ds gs before hval0 hW _ hwt hL hsz
  have hval : ∀ (j : Nat) t v, Tryd.f9.params[j]? = some t → args[j]? = some v → Value.okWide Tryd.prog W .any base t v := hval0
  have hW' := hW
  obtain ⟨p, q, hA0, hV, rfl, hfz, hnd⟩ := hW
  have hA : DataW.TrodAll enc Tryd.prog W 0 (fun _ => true) true Tryd.f9.params.toList args.toList ds p := hA0
  rw [Tryd.params9] at hA hval
  obtain ⟨v0, vs0, d0, ds0, p0, q0, hargs, rfl, rfl, h0, r0⟩ := trodAll_cons hA
  obtain ⟨v1, vs1, d1, ds1, p1, q1, rfl, rfl, rfl, h1, r1⟩ := trodAll_cons r0
  obtain ⟨v2, vs2, d2, ds2, p2, q2, rfl, rfl, rfl, h2, r2⟩ := trodAll_cons r1
  obtain ⟨v3, vs3, d3, ds3, p3, q3, rfl, rfl, rfl, h3, r3⟩ := trodAll_cons r2
  obtain ⟨rfl, rfl, rfl⟩ := trodAll_nil r3
  obtain rfl : args = #[v0, v1, v2, v3] := by cases args; simp_all
  obtain ⟨n0, l0, w0⟩ := arg_i64 (own := none) Tryd.underlying3 (hval 0 3 v0 rfl rfl) h0
  obtain ⟨n1, l1, w1⟩ := arg_i64 (own := none) Tryd.underlying3 (hval 1 3 v1 rfl rfl) h1
  obtain ⟨x2, l2⟩ := arg_bool (own := none) Tryd.underlying4 (hval 2 4 v2 rfl rfl) h2
  obtain ⟨x3, l3⟩ := arg_u64 (own := none) Tryd.underlying23 (hval 3 23 v3 rfl rfl) h3
  refine (call_true widths9 (ds := [.i .i64 n0, .i .i64 n1, .bool x2, .u64 x3]) rfl (glob_of_laid hL) (by simp only [lie]; exact ⟨_, _, rfl, l0, _, _, rfl, l1, _, _, rfl, l2, _, _, rfl, l3, rfl⟩) (by kernel_rfl)).mono fun e W' ⟨he, hb⟩ => ?_
  subst he
  exact ⟨_, rfl, post_law hW' hb laidOut (by kernel_rfl) rfl (by kernel_rfl) Tryd.underlying4 rfl⟩

theorem holds : Rows.IntsWidthsSaid :=
  OpenClaim.holds_of_wide 9 Tryd.f9 rfl rfl rfl rfl rfl rfl rfl ⟨rfl, rfl, rfl, rfl, rfl⟩ rfl rfl rfl rfl rfl (by kernel_rfl) Tryd.func9 (by kernel_rfl)
    (of_decide_eq_true (by kernel_rfl)) (by unfold Func.isWrapper; first | (rw [if_pos (by decide +kernel)]; kernel_rfl) | (rw [if_neg (by decide +kernel)]; exact ⟨rfl, rfl⟩))
    (fun os started H enc _ => lifted os started H enc)
end Go.Proofs.YtakonchpkchfhaaDoor.intsWidths
namespace Go.Proofs.YtakonchpkchfhaaDoor
open Go

theorem intsWidthsCard_holds : Rows.IntsWidthsCardSaid :=
  Claim7.holds_tied_plain_at .later [] [.data, .data] true (true, "47245fa915dfebe7f26fed2fc3b09fe84bb547fd18b756b5389db3167ff8c1f7") false
    intsWidths.holds (fun _ h => by cases h) (by kernel_rfl) (fun _ h => by cases h) intsWidths_row_tie rfl ⟨rfl, rfl⟩ (by kernel_rfl) rfl
    (fun f fn hf hfn => by
      obtain rfl : f = 9 := Option.some.inj ((show Tryd.prog.funcNamed "jacquard/jacquardlaw03.IntsWidths" = some 9 by kernel_rfl).symm.trans hf) |>.symm
      obtain rfl : fn = Tryd.f9 := (Option.some.inj (Tryd.func9.symm.trans hfn)).symm
      exact ⟨by kernel_rfl, fun j t ht => by
        rw [Tryd.params9] at ht
        have hm : t ∈ [3, 3, 4, 23] := by simpa using Array.mem_of_getElem? ht
        have hall : ([3, 3, 4, 23].all fun u => !Tryd.prog.wantsStandIn u) = true := by kernel_rfl
        exact (show Tryd.prog.wantsStandIn t = false by simpa using List.all_eq_true.1 hall t hm)⟩)
    (by kernel_rfl)
#print axioms intsWidthsCard_holds
end Go.Proofs.YtakonchpkchfhaaDoor

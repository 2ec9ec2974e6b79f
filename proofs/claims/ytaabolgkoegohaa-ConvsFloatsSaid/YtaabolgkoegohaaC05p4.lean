/-
  PROVED HERE: ConvsFloats, for every input: whole numbers are made floats as the document says, rounded once; or its error. No conditions beyond the row's own.
-/
import Derived.Test.YtaabolgkoegohaaC05B
import Derived.Test.YtaabolgkoegohaaC05r
set_option linter.unusedSimpArgs false
set_option linter.unusedVariables false
namespace Go.L05
open Go.Ev Go.Proofs Go.RowKit Go.Wh Go.Fl

abbrev VF := Int → Int → Bool → BitVec 64 → BitVec 64
abbrev EF := Int → Int → Bool → BitVec 64 → Int
noncomputable def FG (V : VF) (E : EF) : Ev.Spec := joined fun | [.i .i64 f, .i .i64 t, .bool s, .u64 a] => some (.tup [.u64 (V f t s a), .i .i64 (E f t s a)]) | _ => none
theorem g15 : Snd 15 (FG (fun f t s a => ifF (mayC f t a) (fltV t (intV f s a))) (fun f t _ a => errF (mayC f t a))) := t_Float
theorem g16 : Snd 16 (FG (fun f t s a => ifF (mayC f t a) (fltV t (intV f s a))) (fun f t _ a => errF (mayC f t a))) := t_rFloat
theorem nf4 (V : VF) (E : EF) (f t : Int) (s : Bool) (a : BitVec 64) : ex [(15, FG V E), (16, FG V E), (14, worksS)] (fun _ => []) Try.f4 [.i .i64 f, .i .i64 t, .bool s, .u64 a] some =
  chainT [(V f t s a == V f t s a), (E f t s a == E f t s a)] := by kernel_rfl
theorem floats4 : Snd 4 (trueS fun | [.i .i64 _, .i .i64 _, .bool _, .u64 _] => true | _ => false) := by
  refine Sound.guard (execFn_sound (ann := fun _ => []) (TableOK.cons g15 (TableOK.cons g16 (TableOK.cons t_works TableOK.nil))) mixed Try.func4 (by kernel_rfl) 50) fun ds d h => ?_
  simp only [Option.some.injEq, Prod.mk.injEq] at h
  obtain ⟨h, rfl⟩ := h
  split at h
  · rename_i f t s a
    exact (nf4 _ _ f t s a).trans (chainT_all (by simp))
  · cases h

end Go.L05
namespace Go.Proofs.Ytaabolgkoegohaa.convsFloats
open Go Go.L05 Go.Ev Go.RowKit Go.ChangeShapes Go.WideShapes Go.ChangeAt
set_option maxRecDepth 100000 in
theorem lifted (os : Os) (started : os.Started) (H : Type) (enc : TypeId × Value → H) :
    ReturnsInHanded {} Try.checked os 4 .any (Rows.convsFloatsSpec.pre6 enc Try.prog Try.f4 Rows.convsFloatsRow.domain false) (Rows.convsFloatsSpec.post enc Try.prog Try.f4 false true false false) := by
  refine returnsInHanded_of_change (C := Try.checked) own started (by kernel_rfl) Try.func4
    (ChangeSpec.witness6 (enc := enc) (C := Try.checked) false ⟨#[], #[.int .i64 0, .int .i64 0, .bool false, .int .u64 0], []⟩ 8 (by kernel_rfl) (by kernel_rfl) (by kernel_rfl) (by kernel_rfl)) ?_
  intro W base args ds gs before hval0 hW _ _
  have hval : ∀ (j : Nat) t v, Try.f4.params[j]? = some t → args[j]? = some v → Value.okWide Try.prog W .any base t v := hval0
  have hW' := hW
  obtain ⟨p, q, hA0, hV, rfl, hfz, hnd⟩ := hW
  have hA : DataW.TrodAll enc Try.prog W 0 (fun _ => true) true Try.f4.params.toList args.toList ds p := hA0
  rw [Try.params4] at hA hval
  obtain ⟨v0, vs0, d0, ds0, p0, q0, hargs, rfl, rfl, h0, r0⟩ := trodAll_cons hA
  obtain ⟨v1, vs1, d1, ds1, p1, q1, rfl, rfl, rfl, h1, r1⟩ := trodAll_cons r0
  obtain ⟨v2, vs2, d2, ds2, p2, q2, rfl, rfl, rfl, h2, r2⟩ := trodAll_cons r1
  obtain ⟨v3, vs3, d3, ds3, p3, q3, rfl, rfl, rfl, h3, r3⟩ := trodAll_cons r2
  obtain ⟨rfl, rfl, rfl⟩ := trodAll_nil r3
  obtain rfl : args = #[v0, v1, v2, v3] := by cases args; simp_all
  obtain ⟨n0, l0, w0⟩ := arg_i64 (own := none) Try.underlying3 (hval 0 3 v0 rfl rfl) h0
  obtain ⟨n1, l1, w1⟩ := arg_i64 (own := none) Try.underlying3 (hval 1 3 v1 rfl rfl) h1
  obtain ⟨x2, l2⟩ := arg_bool (own := none) Try.underlying4 (hval 2 4 v2 rfl rfl) h2
  obtain ⟨x3, l3⟩ := arg_u64 (own := none) Try.underlying22 (hval 3 22 v3 rfl rfl) h3
  refine (call_true floats4 (ds := [.i .i64 n0, .i .i64 n1, .bool x2, .u64 x3]) rfl (by simp only [lie]; exact ⟨_, _, rfl, l0, _, _, rfl, l1, _, _, rfl, l2, _, _, rfl, l3, rfl⟩) (by kernel_rfl)).mono fun e W' ⟨he, hb⟩ => ?_
  subst he
  exact ⟨_, rfl, post_law hW' hb laidOut (by kernel_rfl) rfl (by kernel_rfl) Try.underlying4 rfl⟩
end Go.Proofs.Ytaabolgkoegohaa.convsFloats
namespace Go.Proofs.Ytaabolgkoegohaa
open Go

theorem convsFloats_holds : Rows.ConvsFloatsSaid :=
  OpenClaim.holds_of_wide 4 Try.f4 rfl rfl rfl rfl rfl rfl rfl ⟨rfl, rfl, rfl, rfl, rfl⟩ rfl rfl rfl rfl rfl (by kernel_rfl) Try.func4 (by kernel_rfl)
    (of_decide_eq_true (by kernel_rfl)) (by unfold Func.isWrapper; first | (rw [if_pos (by decide +kernel)]; kernel_rfl) | (rw [if_neg (by decide +kernel)]; exact ⟨rfl, rfl⟩))
    (fun os started H enc _ => convsFloats.lifted os started H enc)
#print axioms convsFloats_holds
end Go.Proofs.Ytaabolgkoegohaa

/-
  PROVED HERE: FloatsOne, for every input: each operator of one, of both widths, answers what the document says, bit by bit, or its error. No conditions beyond the row's own.
-/
import Derived.Test.YtieeafjcnomakaaF04w
import Derived.Test.YtieeafjcnomakaaF04r
import Derived.Test.YtieeafjcnomakaaF04x
set_option linter.unusedSimpArgs false
set_option linter.unusedVariables false
namespace Go.L04
open Go.Ev Go.Proofs Go.RowKit Go.Wh Go.Fl

theorem nf6 (V : BitVec 8 → Int → BitVec 64 → BitVec 64) (E : BitVec 8 → Int → BitVec 64 → Int) (o : BitVec 8) (w : Int) (a : BitVec 64) : ex [(25, oneG V E), (26, oneG V E), (15, worksS)] (fun _ => []) Try.f6 [.u8 o, .i .i64 w, .u64 a] some =
  chainT [(V o w a == V o w a), (E o w a == E o w a)] := by kernel_rfl

theorem floatsOne_s : Snd 6 (trueS fun | [.u8 _, .i .i64 _, .u64 _] => true | _ => false) := by
  refine Sound.guard (execFn_sound (ann := fun _ => []) (TableOK.cons f_one (TableOK.cons f_rone (TableOK.cons s_works TableOK.nil))) mixed Try.func6 (by kernel_rfl) 50) fun ds d h => ?_
  simp only [Option.some.injEq, Prod.mk.injEq] at h
  obtain ⟨h, rfl⟩ := h
  split at h
  · rename_i o w a
    exact (nf6 _ _ o w a).trans (chainT_all (by simp))
  · cases h

end Go.L04
namespace Go.Proofs.Ytieeafjcnomakaa.floatsOne
open Go Go.L04 Go.Ev Go.RowKit Go.ChangeShapes Go.WideShapes Go.ChangeAt
set_option maxRecDepth 100000 in
theorem lifted (os : Os) (started : os.Started) (H : Type) (enc : TypeId × Value → H) :
    ReturnsInHanded {} Try.checked os 6 .any (Rows.floatsOneSpec.pre6 enc Try.prog Try.f6 Rows.floatsOneRow.domain false) (Rows.floatsOneSpec.post enc Try.prog Try.f6 false true false false) := by
  refine returnsInHanded_of_change (C := Try.checked) own started (by kernel_rfl) Try.func6
    (ChangeSpec.witness6 (enc := enc) (C := Try.checked) false ⟨#[], #[.int .u8 0, .int .i64 0, .int .u64 0], []⟩ 8 (by kernel_rfl) (by kernel_rfl) (by kernel_rfl) (by kernel_rfl)) ?_
  intro W base args ds gs before hval0 hW _ _
  have hval : ∀ (j : Nat) t v, Try.f6.params[j]? = some t → args[j]? = some v → Value.okWide Try.prog W .any base t v := hval0
  have hW' := hW
  obtain ⟨p, q, hA0, hV, rfl, hfz, hnd⟩ := hW
  have hA : DataW.TrodAll enc Try.prog W 0 (fun _ => true) true Try.f6.params.toList args.toList ds p := hA0
  rw [Try.params6] at hA hval
  obtain ⟨v0, vs0, d0, ds0, p0, q0, hargs, rfl, rfl, h0, r0⟩ := trodAll_cons hA
  obtain ⟨v1, vs1, d1, ds1, p1, q1, rfl, rfl, rfl, h1, r1⟩ := trodAll_cons r0
  obtain ⟨v2, vs2, d2, ds2, p2, q2, rfl, rfl, rfl, h2, r2⟩ := trodAll_cons r1
  obtain ⟨rfl, rfl, rfl⟩ := trodAll_nil r2
  obtain rfl : args = #[v0, v1, v2] := by cases args; simp_all
  obtain ⟨x0, l0⟩ := arg_u8 (own := none) Try.underlying22 (hval 0 22 v0 rfl rfl) h0
  obtain ⟨n1, l1, w1⟩ := arg_i64 (own := none) Try.underlying3 (hval 1 3 v1 rfl rfl) h1
  obtain ⟨x2, l2⟩ := arg_u64 (own := none) Try.underlying23 (hval 2 23 v2 rfl rfl) h2
  refine (call_true floatsOne_s (ds := [.u8 x0, .i .i64 n1, .u64 x2]) rfl (by simp only [lie]; exact ⟨_, _, rfl, l0, _, _, rfl, l1, _, _, rfl, l2, rfl⟩) (by kernel_rfl)).mono fun e W' ⟨he, hb⟩ => ?_
  subst he
  exact ⟨_, rfl, post_law hW' hb laidOut (by kernel_rfl) rfl (by kernel_rfl) Try.underlying4 rfl⟩
end Go.Proofs.Ytieeafjcnomakaa.floatsOne
namespace Go.Proofs.Ytieeafjcnomakaa
open Go

theorem floatsOne_holds : Rows.FloatsOneSaid :=
  OpenClaim.holds_of_wide 6 Try.f6 rfl rfl rfl rfl rfl rfl rfl ⟨rfl, rfl, rfl, rfl, rfl⟩ rfl rfl rfl rfl rfl (by kernel_rfl) Try.func6 (by kernel_rfl)
    (of_decide_eq_true (by kernel_rfl)) (by unfold Func.isWrapper; first | (rw [if_pos (by decide +kernel)]; kernel_rfl) | (rw [if_neg (by decide +kernel)]; exact ⟨rfl, rfl⟩))
    (fun os started H enc _ => floatsOne.lifted os started H enc)
#print axioms floatsOne_holds
end Go.Proofs.Ytieeafjcnomakaa

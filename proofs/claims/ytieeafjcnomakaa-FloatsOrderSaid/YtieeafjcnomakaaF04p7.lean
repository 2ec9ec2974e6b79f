/-
  PROVED HERE: FloatsOrder, for every input: sums and products are the same in both orders; a difference is the sum with the other one's sign turned. No conditions beyond the row's own.
-/
import Derived.Test.YtieeafjcnomakaaF04w
import Derived.Test.YtieeafjcnomakaaF04r
import Derived.Test.YtieeafjcnomakaaF04v
set_option linter.unusedSimpArgs false
set_option linter.unusedVariables false
namespace Go.L04
open Go.Ev Go.Proofs Go.RowKit Go.Wh Go.Fl

def orT (e1 e2 g e3 : Bool) : Option D := if (!e1) = false then if (!e2) = true then some (.bool false) else if g = true then if e3 = true then some (.bool true) else some (.bool false) else none else some (.bool false)
theorem nf7 (W : BitVec 8 → Int) (O : Int → BitVec 64 → BitVec 64) (V : WV) (C : BitVec 8 → Int → BitVec 64 → Bool) (R : BitVec 8 → Int → BitVec 64 → BitVec 64) (n : BitVec 8) (a b : BitVec 64) : ex [(20, widG W), (21, lofG O), (23, twBG V), (27, onBG C R), (15, worksS)] (fun _ => []) Try.f7 [.u8 n, .u64 a, .u64 b] some =
  orT (V 1#8 (W n) (O (W n) a) (O (W n) b) == V 1#8 (W n) (O (W n) b) (O (W n) a)) (V 3#8 (W n) (O (W n) a) (O (W n) b) == V 3#8 (W n) (O (W n) b) (O (W n) a)) (C 11#8 (W n) (O (W n) b))
    (V 2#8 (W n) (O (W n) a) (O (W n) b) == V 1#8 (W n) (O (W n) a) (R 11#8 (W n) (O (W n) b))) := by kernel_rfl
theorem tw_ar {w : Int} {a b : BitVec 64} (ha : inF w a = true) (hb : inF w b = true) {o : BitVec 8} (ho : ar4 o = true) : ftwV o w a b = arW o w a b := by
  unfold ftwV twW
  rw [ma_in ha hb, if_pos rfl]
  exact if_pos ho

theorem floatsOrder_s : Snd 7 (trueS fun | [.u8 _, .u64 _, .u64 _] => true | _ => false) := by
  refine Sound.guard (execFn_sound (ann := fun _ => []) (TableOK.cons t_wid (TableOK.cons t_lof (TableOK.cons l_two (TableOK.cons l_sgn (TableOK.cons s_works TableOK.nil))))) mixed Try.func7 (by kernel_rfl) 50) fun ds d h => ?_
  simp only [Option.some.injEq, Prod.mk.injEq] at h
  obtain ⟨h, rfl⟩ := h
  split at h
  · rename_i n a b
    refine (nf7 _ _ _ _ _ n a b).trans ?_
    have ia := in_wl n a
    have ib := in_wl n b
    have ix := in_xor ib
    rw [tw_ar ia ib (by decide), tw_ar ib ia (by decide), tw_ar ia ib (by decide), tw_ar ib ia (by decide), tw_ar ia ib (by decide)]
    have e11 : sgV 11#8 (widF n) (lofF (widF n) b) = lofF (widF n) b ^^^ sgW (widF n) := rfl
    have c11 : sgO 11#8 (widF n) (lofF (widF n) b) = true := by unfold sgO; rw [ib]; rfl
    rw [e11, c11, tw_ar ia ix (by decide)]
    have h1 : arW 1#8 (widF n) (lofF (widF n) a) (lofF (widF n) b) = arW 1#8 (widF n) (lofF (widF n) b) (lofF (widF n) a) := by
      show clO _ (Ieee.Format.add _ _ _) = clO _ (Ieee.Format.add _ _ _)
      rw [Fl.add_comm]
    have h2 : arW 3#8 (widF n) (lofF (widF n) a) (lofF (widF n) b) = arW 3#8 (widF n) (lofF (widF n) b) (lofF (widF n) a) := by
      show clO _ (Ieee.Format.mul _ _ _) = clO _ (Ieee.Format.mul _ _ _)
      rw [Fl.mul_comm]
    have h3 : arW 2#8 (widF n) (lofF (widF n) a) (lofF (widF n) b) = arW 1#8 (widF n) (lofF (widF n) a) (lofF (widF n) b ^^^ sgW (widF n)) := by
      show clO _ (Ieee.Format.sub _ _ _) = clO _ (Ieee.Format.add _ _ _)
      rw [sub_add ib]
    rw [h1, h2, h3, beq_self_eq_true, beq_self_eq_true, beq_self_eq_true]
    rfl
  · cases h

end Go.L04
namespace Go.Proofs.Ytieeafjcnomakaa.floatsOrder
open Go Go.L04 Go.Ev Go.RowKit Go.ChangeShapes Go.WideShapes Go.ChangeAt
set_option maxRecDepth 100000 in
theorem lifted (os : Os) (started : os.Started) (H : Type) (enc : TypeId × Value → H) :
    ReturnsInHanded {} Try.checked os 7 .any (Rows.floatsOrderSpec.pre6 enc Try.prog Try.f7 Rows.floatsOrderRow.domain false) (Rows.floatsOrderSpec.post enc Try.prog Try.f7 false true false false) := by
  refine returnsInHanded_of_change (C := Try.checked) own started (by kernel_rfl) Try.func7
    (ChangeSpec.witness6 (enc := enc) (C := Try.checked) false ⟨#[], #[.int .u8 0, .int .u64 0, .int .u64 0], []⟩ 8 (by kernel_rfl) (by kernel_rfl) (by kernel_rfl) (by kernel_rfl)) ?_
  intro W base args ds gs before hval0 hW _ _
  have hval : ∀ (j : Nat) t v, Try.f7.params[j]? = some t → args[j]? = some v → Value.okWide Try.prog W .any base t v := hval0
  have hW' := hW
  obtain ⟨p, q, hA0, hV, rfl, hfz, hnd⟩ := hW
  have hA : DataW.TrodAll enc Try.prog W 0 (fun _ => true) true Try.f7.params.toList args.toList ds p := hA0
  rw [Try.params7] at hA hval
  obtain ⟨v0, vs0, d0, ds0, p0, q0, hargs, rfl, rfl, h0, r0⟩ := trodAll_cons hA
  obtain ⟨v1, vs1, d1, ds1, p1, q1, rfl, rfl, rfl, h1, r1⟩ := trodAll_cons r0
  obtain ⟨v2, vs2, d2, ds2, p2, q2, rfl, rfl, rfl, h2, r2⟩ := trodAll_cons r1
  obtain ⟨rfl, rfl, rfl⟩ := trodAll_nil r2
  obtain rfl : args = #[v0, v1, v2] := by cases args; simp_all
  obtain ⟨x0, l0⟩ := arg_u8 (own := none) Try.underlying5 (hval 0 5 v0 rfl rfl) h0
  obtain ⟨x1, l1⟩ := arg_u64 (own := none) Try.underlying23 (hval 1 23 v1 rfl rfl) h1
  obtain ⟨x2, l2⟩ := arg_u64 (own := none) Try.underlying23 (hval 2 23 v2 rfl rfl) h2
  refine (call_true floatsOrder_s (ds := [.u8 x0, .u64 x1, .u64 x2]) rfl (by simp only [lie]; exact ⟨_, _, rfl, l0, _, _, rfl, l1, _, _, rfl, l2, rfl⟩) (by kernel_rfl)).mono fun e W' ⟨he, hb⟩ => ?_
  subst he
  exact ⟨_, rfl, post_law hW' hb laidOut (by kernel_rfl) rfl (by kernel_rfl) Try.underlying4 rfl⟩
end Go.Proofs.Ytieeafjcnomakaa.floatsOrder
namespace Go.Proofs.Ytieeafjcnomakaa
open Go

theorem floatsOrder_holds : Rows.FloatsOrderSaid :=
  OpenClaim.holds_of_wide 7 Try.f7 rfl rfl rfl rfl rfl rfl rfl ⟨rfl, rfl, rfl, rfl, rfl⟩ rfl rfl rfl rfl rfl (by kernel_rfl) Try.func7 (by kernel_rfl)
    (of_decide_eq_true (by kernel_rfl)) (by unfold Func.isWrapper; first | (rw [if_pos (by decide +kernel)]; kernel_rfl) | (rw [if_neg (by decide +kernel)]; exact ⟨rfl, rfl⟩))
    (fun os started H enc _ => floatsOrder.lifted os started H enc)
#print axioms floatsOrder_holds
end Go.Proofs.Ytieeafjcnomakaa

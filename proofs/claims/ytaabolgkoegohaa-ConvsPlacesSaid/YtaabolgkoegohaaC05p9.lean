/-
  PROVED HERE: ConvsPlaces, for every input: what has bits that a width has not, and what is of another width, is refused. No conditions beyond the row's own.
-/
import Derived.Test.YtaabolgkoegohaaC05g
import Derived.Test.YtaabolgkoegohaaC05r
set_option linter.unusedSimpArgs false
set_option linter.unusedVariables false
namespace Go.L05
open Go.Ev Go.Proofs Go.RowKit Go.Wh Go.Fl

abbrev VC := Int → Int → Bool → BitVec 64 → BitVec 64
abbrev EC := Int → Int → Bool → BitVec 64 → Int
noncomputable def CG (V : VC) (E : EC) : Ev.Spec := joined fun | [.i .i64 f, .i .i64 t, .bool s, .u64 a] => some (.tup [.u64 (V f t s a), .i .i64 (E f t s a)]) | _ => none
abbrev cV : VC := fun f t s a => ifF (mayC f t a && fitV f t s a) (hldV f t s a)
abbrev cE : EC := fun f t s a => if mayC f t a = true then (if fitV f t s a = true then 0 else 6) else 2
abbrev hV : VC := fun f t s a => ifF (mayC f t a) (hldV f t s a)
abbrev hE : EC := fun f t _ a => errF (mayC f t a)
theorem g17 : Snd 17 (CG cV cE) := t_Cut
theorem g19 : Snd 19 (CG hV hE) := t_Held

noncomputable def proG (V : BitVec 64 → BitVec 64) (E : BitVec 64 → Int) : Ev.Spec := joined fun | [.u64 a] => some (.tup [.u64 (V a), .i .i64 (E a)]) | _ => none
abbrev fV : VC := fun f t s a => ifF (mayC f t a) (fltV t (intV f s a))
theorem g15 : Snd 15 (CG fV hE) := t_Float
theorem g10 : Snd 10 (proG (fun a => ifF (fitC 32 a) (proV a)) (fun a => errF (fitC 32 a))) := t_Pro
def plL (e2 e e3 c m : Bool) : Option D := if (e2 == m) = true then if (e == m) = true then if (e3 == c) = true then some (.bool true) else some (.bool false) else some (.bool false) else some (.bool false)
theorem nf9 (V : VC) (E : EC) (V2 : VC) (E2 : EC) (P : BitVec 64 → BitVec 64) (E3 : BitVec 64 → Int) (f t : Int) (s : Bool) (a : BitVec 64) : ex [(15, CG V E), (19, CG V2 E2), (10, proG P E3), (12, demA), (14, worksS)] (fun _ => []) Try.f9 [.i .i64 f, .i .i64 t, .bool s, .u64 a] some =
  if (f == 64) = false then
    if (f == 32) = true then if (a >>> 32 == 0#64) = true then if (t == 32) = false then plL (E2 f t s a == 0) (E f t s a == 0) (E3 a == 0) (a >>> 32 == 0#64) (t == 64) else plL (E2 f t s a == 0) (E f t s a == 0) (E3 a == 0) (a >>> 32 == 0#64) true
      else plL (E2 f t s a == 0) (E f t s a == 0) (E3 a == 0) (a >>> 32 == 0#64) false
    else plL (E2 f t s a == 0) (E f t s a == 0) (E3 a == 0) (a >>> 32 == 0#64) false
  else if (t == 32) = false then plL (E2 f t s a == 0) (E f t s a == 0) (E3 a == 0) (a >>> 32 == 0#64) (t == 64) else plL (E2 f t s a == 0) (E f t s a == 0) (E3 a == 0) (a >>> 32 == 0#64) true := by kernel_rfl
theorem places9 : Snd 9 (trueS fun | [.i .i64 _, .i .i64 _, .bool _, .u64 _] => true | _ => false) := by
  refine Sound.guard (execFn_sound (ann := fun _ => []) (TableOK.cons g15 (TableOK.cons g19 (TableOK.cons g10 (TableOK.cons t_demA (TableOK.cons t_works TableOK.nil))))) mixed Try.func9 (by kernel_rfl) 50) fun ds d h => ?_
  simp only [Option.some.injEq, Prod.mk.injEq] at h
  obtain ⟨h, rfl⟩ := h
  split at h
  · rename_i f t s a
    refine (nf9 _ _ _ _ _ _ f t s a).trans ?_
    have eE : ∀ b : Bool, (errF b == (0 : Int)) = b := fun b => by cases b <;> rfl
    simp only [hE, eE, mayC, okC, fitC]
    have h1 := w3264 f
    have h2 := w3264 t
    revert h1 h2
    generalize (a >>> 32 == 0#64) = c
    generalize (f == 32) = x1
    generalize (f == 64) = x2
    generalize (t == 32) = y1
    generalize (t == 64) = y2
    intro h1 h2
    cases x1 <;> cases x2 <;> cases y1 <;> cases y2 <;> cases c <;> first | rfl | (exact absurd (h1 rfl) (by decide)) | (exact absurd (h2 rfl) (by decide))
  · cases h

end Go.L05
namespace Go.Proofs.Ytaabolgkoegohaa.convsPlaces
open Go Go.L05 Go.Ev Go.RowKit Go.ChangeShapes Go.WideShapes Go.ChangeAt
set_option maxRecDepth 100000 in
theorem lifted (os : Os) (started : os.Started) (H : Type) (enc : TypeId × Value → H) :
    ReturnsInHanded {} Try.checked os 9 .any (Rows.convsPlacesSpec.pre6 enc Try.prog Try.f9 Rows.convsPlacesRow.domain false) (Rows.convsPlacesSpec.post enc Try.prog Try.f9 false true false false) := by
  refine returnsInHanded_of_change (C := Try.checked) own started (by kernel_rfl) Try.func9
    (ChangeSpec.witness6 (enc := enc) (C := Try.checked) false ⟨#[], #[.int .i64 0, .int .i64 0, .bool false, .int .u64 0], []⟩ 8 (by kernel_rfl) (by kernel_rfl) (by kernel_rfl) (by kernel_rfl)) ?_
  intro W base args ds gs before hval0 hW _ _
  have hval : ∀ (j : Nat) t v, Try.f9.params[j]? = some t → args[j]? = some v → Value.okWide Try.prog W .any base t v := hval0
  have hW' := hW
  obtain ⟨p, q, hA0, hV, rfl, hfz, hnd⟩ := hW
  have hA : DataW.TrodAll enc Try.prog W 0 (fun _ => true) true Try.f9.params.toList args.toList ds p := hA0
  rw [Try.params9] at hA hval
  obtain ⟨v0, vs0, d0, ds0, p0, q0, hargs, rfl, rfl, h0, r0⟩ := trodAll_cons hA
  obtain ⟨v1, vs1, d1, ds1, p1, q1, rfl, rfl, rfl, h1, r1⟩ := trodAll_cons r0
  obtain ⟨v2, vs2, d2, ds2, p2, q2, rfl, rfl, rfl, h2, r2⟩ := trodAll_cons r1
  obtain ⟨v3, vs3, d3, ds3, p3, q3, rfl, rfl, rfl, h3, r3⟩ := trodAll_cons r2
  obtain ⟨rfl, rfl, rfl⟩ := trodAll_nil r3
  obtain rfl : args = #[v0, v1, v2, v3] := by cases args; simp_all
  obtain ⟨n0, l0, w0⟩ := arg_i64 (own := none) Try.underlying3 (hval 0 3 v0 rfl rfl) h0
  obtain ⟨n1, l1, w1⟩ := arg_i64 (own := none) Try.underlying3 (hval 1 3 v1 rfl rfl) h1
  obtain ⟨x2, l2⟩ := arg_bool (own := none) Try.underlying4 (hval 2 4 v2 rfl rfl) h2
  obtain ⟨x3, l3⟩ := arg_u64 (own := none) Try.underlying22 (hval 3 22 v3 rfl rfl) h3
  refine (call_true places9 (ds := [.i .i64 n0, .i .i64 n1, .bool x2, .u64 x3]) rfl (by simp only [lie]; exact ⟨_, _, rfl, l0, _, _, rfl, l1, _, _, rfl, l2, _, _, rfl, l3, rfl⟩) (by kernel_rfl)).mono fun e W' ⟨he, hb⟩ => ?_
  subst he
  exact ⟨_, rfl, post_law hW' hb laidOut (by kernel_rfl) rfl (by kernel_rfl) Try.underlying4 rfl⟩
end Go.Proofs.Ytaabolgkoegohaa.convsPlaces
namespace Go.Proofs.Ytaabolgkoegohaa
open Go

theorem convsPlaces_holds : Rows.ConvsPlacesSaid :=
  OpenClaim.holds_of_wide 9 Try.f9 rfl rfl rfl rfl rfl rfl rfl ⟨rfl, rfl, rfl, rfl, rfl⟩ rfl rfl rfl rfl rfl (by kernel_rfl) Try.func9 (by kernel_rfl)
    (of_decide_eq_true (by kernel_rfl)) (by unfold Func.isWrapper; first | (rw [if_pos (by decide +kernel)]; kernel_rfl) | (rw [if_neg (by decide +kernel)]; exact ⟨rfl, rfl⟩))
    (fun os started H enc _ => convsPlaces.lifted os started H enc)
#print axioms convsPlaces_holds
end Go.Proofs.Ytaabolgkoegohaa

/-
  PROVED HERE: the tied card of VfloatsWhole, for every input: lanes of whole numbers that are made floats of 64 bits, and cut, are they, with a sign and without. No conditions beyond the card's own.
-/
import Derived.Test.YtimaanpcglbnpaaDoorW08c
import Derived.Test.YtimaanpcglbnpaaDoorW08d
import Derived.Test.YtimaanpcglbnpaaDoorC08F
import Derived.Test.YtimaanpcglbnpaaDoorS08r
import Derived.SevenTiedAt
set_option linter.unusedSimpArgs false
set_option linter.unusedVariables false
namespace Go.L08
open Go.L08F (WV CV CE twoG thanG)
open Go.Ev Go.Proofs Go.RowKit Go.Wh Go.Fl

def annW : Nat → List Nat := fun | 4 => [0, 3, 5, 6, 7, 8, 9] | _ => []
noncomputable def getG (Q : BitVec 64 → BitVec 64 → Int → Int → BitVec 64) (E : BitVec 64 → BitVec 64 → Int → Int → Int) : Ev.Spec := joined fun | [.agg [.u64 x, .u64 y], .i .i64 t, .i .i64 i] => some (.tup [.u64 (Q x y t i), .i .i64 (E x y t i)]) | _ => none
def gV (x y : BitVec 64) (t i : Int) : BitVec 64 := ifF (okI t i) (getF x y t i)
def gE (_ _ : BitVec 64) (t i : Int) : Int := errF (okI t i)
theorem g_get : Snd 22 (getG gV gE) := Get13
theorem g_flt : Snd 23 (CG L08C.fV hE) := L08C.t_Float
theorem nf7 (V : VC) (E : EC) (P Q : PC) (E1 : Int → Int) (P2 Q2 : PC) (E2 : Int → Int) (G : BitVec 64 → BitVec 64 → Int → Int → BitVec 64) (GE : BitVec 64 → BitVec 64 → Int → Int → Int) (s : Bool) (a0 a1 : BitVec 64) : ex [(20, VcG P Q E1), (18, VcG P2 Q2 E2), (22, getG G GE), (23, CG V E), (11, wkS)] annW Tryd.f7 [.bool s, vec a0 a1] some =
  if (!(G (P 64 s a0 a1) (Q 64 s a0 a1) 64 0 == V 32 64 s (G a0 a1 32 0))) = true then some (.bool false) else if (!(G (P 64 s a0 a1) (Q 64 s a0 a1) 64 1 == V 32 64 s (G a0 a1 32 1))) = true then some (.bool false) else
  if (E1 64 == 0) = true then if (E2 64 == 0) = true then if (P2 64 s (P 64 s a0 a1) (Q 64 s a0 a1) == a0 && Q2 64 s (P 64 s a0 a1) (Q 64 s a0 a1) == 0#64) = true then some (.bool true) else some (.bool false) else some (.bool false) else some (.bool false) := by kernel_rfl
open Go.Rt in
theorem half32 (a0 a1 : BitVec 64) : vecF 32 [getF a0 a1 32 0, getF a0 a1 32 1, 0#64, 0#64] = (a0, 0#64) := by
  have ex : asm [bt (getF a0 a1 32 0) 0, bt (getF a0 a1 32 0) 8, bt (getF a0 a1 32 0) 16, bt (getF a0 a1 32 0) 24, bt (getF a0 a1 32 1) 0, bt (getF a0 a1 32 1) 8, bt (getF a0 a1 32 1) 16, bt (getF a0 a1 32 1) 24] = a0 := route (ρ := at3 a0 a1 0#64) (by kernel_rfl)
  exact Prod.ext (Eq.trans (by kernel_rfl) ex) (by kernel_rfl)
theorem get64 (x y : BitVec 64) : getF x y 64 0 = x ∧ getF x y 64 1 = y := by
  have e0 : getF x y 64 0 = x >>> 0 &&& maskF 64 := by kernel_rfl
  have e1 : getF x y 64 1 = y >>> 0 &&& maskF 64 := by kernel_rfl
  have em : maskF 64 = BitVec.allOnes 64 := by decide
  rw [e0, e1, em, BitVec.and_allOnes, BitVec.and_allOnes, BitVec.ushiftRight_zero, BitVec.ushiftRight_zero]
  exact ⟨rfl, rfl⟩
theorem get_fit (a0 a1 : BitVec 64) : fitF 32 (getF a0 a1 32 0) = true ∧ fitF 32 (getF a0 a1 32 1) = true := by
  have e0 : getF a0 a1 32 0 = a0 >>> 0 &&& maskF 32 := by kernel_rfl
  have e1 : getF a0 a1 32 1 = a0 >>> 32 &&& maskF 32 := by kernel_rfl
  rw [e0, e1]
  exact ⟨L08C.fit_and rfl _, L08C.fit_and rfl _⟩
theorem vfloatsWhole_s : Snd 7 (trueS fun | [.bool _, .agg [.u64 _, .u64 _]] => true | _ => false) := by
  refine Sound.guard (execFn_sound (ann := annW) (TableOK.cons v_flt (TableOK.cons v_cut (TableOK.cons g_get (TableOK.cons g_flt (TableOK.cons t_wk TableOK.nil))))) mixed Tryd.func7 (by kernel_rfl) 50) fun ds d h => ?_
  simp only [Option.some.injEq, Prod.mk.injEq] at h
  obtain ⟨h, rfl⟩ := h
  split at h
  · rename_i s a0 a1
    refine (nf7 L08C.fV hE (flP L08C.fV) (flQ L08C.fV) vcE (cuP L08C.hV) (cuQ L08C.hV) vcE gV gE s a0 a1).trans ?_
    have ef : flL L08C.fV 64 s a0 a1 = [L08C.fV 32 64 s (getF a0 a1 32 0), L08C.fV 32 64 s (getF a0 a1 32 1)] := rfl
    have ep : flP L08C.fV 64 s a0 a1 = L08C.fV 32 64 s (getF a0 a1 32 0) := by show (vecF 64 (flL L08C.fV 64 s a0 a1)).1 = _; rw [ef, vec2]
    have eq : flQ L08C.fV 64 s a0 a1 = L08C.fV 32 64 s (getF a0 a1 32 1) := by show (vecF 64 (flL L08C.fV 64 s a0 a1)).2 = _; rw [ef, vec2]
    rw [ep, eq]
    obtain ⟨f0, f1⟩ := get_fit a0 a1
    have g0 : gV a0 a1 32 0 = getF a0 a1 32 0 := rfl
    have g1 : gV a0 a1 32 1 = getF a0 a1 32 1 := rfl
    have h0 : ∀ x y, gV x y 64 0 = x := fun x y => (get64 x y).1
    have h1 : ∀ x y, gV x y 64 1 = y := fun x y => (get64 x y).2
    rw [g0, g1, h0, h1]
    have ec : ∀ x y, cuL L08C.hV 64 s x y = [L08C.hV 64 32 s (getF x y 64 0), L08C.hV 64 32 s (getF x y 64 1), 0#64, 0#64] := fun x y => rfl
    have ec2 : cuL L08C.hV 64 s (L08C.fV 32 64 s (getF a0 a1 32 0)) (L08C.fV 32 64 s (getF a0 a1 32 1)) = [getF a0 a1 32 0, getF a0 a1 32 1, 0#64, 0#64] := by
      rw [ec, (get64 _ _).1, (get64 _ _).2, L08C.back32 f0 s, L08C.back32 f1 s]
    have cp : cuP L08C.hV 64 s (L08C.fV 32 64 s (getF a0 a1 32 0)) (L08C.fV 32 64 s (getF a0 a1 32 1)) = a0 := by show (vecF 32 (cuL L08C.hV 64 s _ _)).1 = _; rw [ec2, half32]
    have cq : cuQ L08C.hV 64 s (L08C.fV 32 64 s (getF a0 a1 32 0)) (L08C.fV 32 64 s (getF a0 a1 32 1)) = 0#64 := by show (vecF 32 (cuL L08C.hV 64 s _ _)).2 = _; rw [ec2, half32]
    have ve : vcE 64 = 0 := rfl
    rw [cp, cq, ve]
    simp
  · cases h

end Go.L08
namespace Go.Proofs.YtimaanpcglbnpaaDoor.vfloatsWhole
open Go Go.L08 Go.Ev Go.RowKit Go.ChangeShapes Go.WideShapes Go.ChangeAt
set_option maxRecDepth 100000 in
theorem lifted (os : Os) (started : os.Started) (H : Type) (enc : TypeId × Value → H) :
    ReturnsInHanded {} Tryd.checked os 7 .any (fun w args => (Rows.vfloatsWholeSpec.pre enc Tryd.prog Tryd.f7 [] false w args ∧ laidMetH Tryd.prog laid2 w) ∧ sizedMet enc Tryd.prog Tryd.f7 (OpenSpec.ofChange Rows.vfloatsWholeSpec) false w args)
      (Rows.vfloatsWholeSpec.post enc Tryd.prog Tryd.f7 false true false false) := by
  refine returnsInHanded_of_change_and (C := Tryd.checked) (X := fun w _ => laidMetH Tryd.prog laid2 w) (fun _ _ _ hh h => h.of_heap hh) own started (by kernel_rfl) Tryd.func7
    (ChangeSpec.witness_shaped (enc := enc) (C := Tryd.checked) (os := os) (X := fun w _ => laidMetH Tryd.prog laid2 w) false (World.doorLaid Tryd.prog 19 os) #[.bool false, .agg #[.int .u64 0, .int .u64 0]] 8 rfl (World.shaped_of_RefB (by kernel_rfl) (by kernel_rfl)) (by kernel_rfl) (by kernel_rfl) (by kernel_rfl)
      (door_met os _)) ?_
  intro W base args ds gs before hval0 hW _ hwt hL hsz
  have hval : ∀ (j : Nat) t v, Tryd.f7.params[j]? = some t → args[j]? = some v → Value.okWide Tryd.prog W .any base t v := hval0
  have hW' := hW
  obtain ⟨p, q, hA0, hV, rfl, hfz, hnd⟩ := hW
  have hA : DataW.TrodAll enc Tryd.prog W 0 (fun _ => true) true Tryd.f7.params.toList args.toList ds p := hA0
  rw [Tryd.params7] at hA hval
  obtain ⟨v0, vs0, d0, ds0, p0, q0, hargs, rfl, rfl, h0, r0⟩ := trodAll_cons hA
  obtain ⟨v1, vs1, d1, ds1, p1, q1, rfl, rfl, rfl, h1, r1⟩ := trodAll_cons r0
  obtain ⟨rfl, rfl, rfl⟩ := trodAll_nil r1
  obtain rfl : args = #[v0, v1] := by cases args; simp_all
  obtain ⟨x0, l0⟩ := arg_bool (own := none) Tryd.underlying4 (hval 0 4 v0 rfl rfl) h0
  obtain ⟨x1, y1, l1⟩ := a_vec (own := none) (hval 1 25 v1 rfl rfl) h1
  refine (call_true vfloatsWhole_s (ds := [.bool x0, vec x1 y1]) rfl (glob_of_laid hL) (by simp only [lie]; exact ⟨_, _, rfl, l0, _, _, rfl, l1, rfl⟩) (by kernel_rfl)).mono fun e W' ⟨he, hb⟩ => ?_
  subst he
  exact ⟨_, rfl, post_law hW' hb laidOut (by kernel_rfl) rfl (by kernel_rfl) Tryd.underlying4 rfl⟩

theorem holds : Rows.VfloatsWholeSaid :=
  OpenClaim.holds_of_wide 7 Tryd.f7 rfl rfl rfl rfl rfl rfl rfl ⟨rfl, rfl, rfl, rfl, rfl⟩ rfl rfl rfl rfl rfl (by kernel_rfl) Tryd.func7 (by kernel_rfl)
    (of_decide_eq_true (by kernel_rfl)) (by unfold Func.isWrapper; first | (rw [if_pos (by decide +kernel)]; kernel_rfl) | (rw [if_neg (by decide +kernel)]; exact ⟨rfl, rfl⟩))
    (fun os started H enc _ => lifted os started H enc)
end Go.Proofs.YtimaanpcglbnpaaDoor.vfloatsWhole
namespace Go.Proofs.YtimaanpcglbnpaaDoor
open Go

theorem vfloatsWholeCard_holds : Rows.VfloatsWholeCardSaid :=
  Claim7.holds_tied_plain_at .later [] [.data, .data] true (true, "ac3ce149d828802affa243c6663a7993141ffac6c5f9ff569bc159c5855f6d6c") false
    vfloatsWhole.holds (fun _ h => by cases h) (by kernel_rfl) (fun _ h => by cases h) vfloatsWhole_row_tie rfl ⟨rfl, rfl⟩ (by kernel_rfl) rfl
    (fun f fn hf hfn => by
      obtain rfl : f = 7 := Option.some.inj ((show Tryd.prog.funcNamed "jacquard/jacquardlaw08.VfloatsWhole" = some 7 by kernel_rfl).symm.trans hf) |>.symm
      obtain rfl : fn = Tryd.f7 := (Option.some.inj (Tryd.func7.symm.trans hfn)).symm
      exact ⟨by kernel_rfl, fun j t ht => by
        rw [Tryd.params7] at ht
        have hm : t ∈ [4, 25] := by simpa using Array.mem_of_getElem? ht
        have hall : ([4, 25].all fun u => !Tryd.prog.wantsStandIn u) = true := by kernel_rfl
        exact (show Tryd.prog.wantsStandIn t = false by simpa using List.all_eq_true.1 hall t hm)⟩)
    (by kernel_rfl)
#print axioms vfloatsWholeCard_holds
end Go.Proofs.YtimaanpcglbnpaaDoor

/-
  PROVED HERE: the tied card of IntsBack, for every input: a number that is extended, and narrowed, is itself; one that is extended in two steps is what it is in one. No conditions beyond the card's own.
-/
import Derived.Test.YtakonchpkchfhaaDoorS03e
import Derived.SevenTiedAt
set_option linter.unusedSimpArgs false
set_option linter.unusedVariables false
namespace Go.L03
open Go.Ev Go.Proofs Go.RowKit Go.Wh

def wid2 (n : BitVec 8) : Int := IntKind.i64.wrap (8 * 2 ^ min (BitVec.setWidth 64 (n % BitVec.ofInt 8 2)).toNat IntKind.i64.bits)
theorem wid2_cases (n : BitVec 8) : wid2 n = 8 ∨ wid2 n = 16 := by revert n; decide +kernel
def backT (w u v : Int) (s : Bool) (a x : BitVec 64) : Option D :=
  if (errF (okE w u a) == 0) = true then
    if (errF (okE u v x) == 0) = true then
      if (errF (okE w v a) == 0) = true then
        if (errF (okN u w x) == 0) = true then
          if (ifF (okE u v x) (extF u v s x) == ifF (okE w v a) (extF w v s a)) = true then
            if (ifF (okN u w x) (narF u w s x) == a) = true then some (.bool true) else some (.bool false)
          else some (.bool false)
        else some (.bool false)
      else some (.bool false)
    else some (.bool false)
  else some (.bool false)
theorem nf10 (n : BitVec 8) (s : Bool) (a : BitVec 64) : ex [(21, ExtS), (23, NarS), (19, ofS), (15, worksS)] (fun _ => []) Tryd.f10 [.u8 n, .bool s, .u64 a] some =
  backT (wid2 n) (IntKind.i64.wrap (2 * wid2 n)) (IntKind.i64.wrap (4 * wid2 n)) s (a &&& maskF (wid2 n)) (ifF (okE (wid2 n) (IntKind.i64.wrap (2 * wid2 n)) (a &&& maskF (wid2 n))) (extF (wid2 n) (IntKind.i64.wrap (2 * wid2 n)) s (a &&& maskF (wid2 n)))) := by kernel_rfl
theorem back_end {w u v : Int} (hw : okW w = true) (hu : okW u = true) (hv : okW v = true) (h1 : w < u) (h2 : u < v) (p1 : pw w ≤ pw u / 2) (s : Bool) {a : BitVec 64} (ha : fitF w a = true) : backT w u v s a (ifF (okE w u a) (extF w u s a)) = some (.bool true) := by
  obtain ⟨e1, e2, e3, e4, e5, e6⟩ := back_law hw hu hv h1 h2 p1 s ha
  have e0 : (errF true == 0) = true := by decide
  simp only [backT, e1, ifF, if_true, e2, e3, e4, e5, e6, e0, beq_self_eq_true]
theorem back10 : Snd 10 (trueS fun | [.u8 _, .bool _, .u64 _] => true | _ => false) := by
  refine Sound.guard (execFn_sound (ann := fun _ => []) (TableOK.cons t_Extend (TableOK.cons t_Narrow (TableOK.cons t_of (TableOK.cons t_works TableOK.nil)))) mixed Tryd.func10 (by kernel_rfl) 50) fun ds d h => ?_
  simp only [Option.some.injEq, Prod.mk.injEq] at h
  obtain ⟨h, rfl⟩ := h
  split at h
  · rename_i n s a
    refine (nf10 n s a).trans ?_
    rcases wid2_cases n with e | e <;> rw [e]
    · have e1 : IntKind.i64.wrap (2 * 8) = 16 := by decide
      have e2 : IntKind.i64.wrap (4 * 8) = 32 := by decide
      rw [e1, e2]
      exact back_end (by decide) (by decide) (by decide) (by decide) (by decide) (by decide) s (fit_and (by decide) a)
    · have e1 : IntKind.i64.wrap (2 * 16) = 32 := by decide
      have e2 : IntKind.i64.wrap (4 * 16) = 64 := by decide
      rw [e1, e2]
      exact back_end (by decide) (by decide) (by decide) (by decide) (by decide) (by decide) s (fit_and (by decide) a)
  · cases h

end Go.L03
namespace Go.Proofs.YtakonchpkchfhaaDoor.intsBack
open Go Go.L03 Go.Ev Go.RowKit Go.ChangeShapes Go.WideShapes Go.ChangeAt
set_option maxRecDepth 100000 in
theorem lifted (os : Os) (started : os.Started) (H : Type) (enc : TypeId × Value → H) :
    ReturnsInHanded {} Tryd.checked os 10 .any (fun w args => (Rows.intsBackSpec.pre enc Tryd.prog Tryd.f10 [] false w args ∧ laidMetH Tryd.prog laid2 w) ∧ sizedMet enc Tryd.prog Tryd.f10 (OpenSpec.ofChange Rows.intsBackSpec) false w args)
      (Rows.intsBackSpec.post enc Tryd.prog Tryd.f10 false true false false) := by
  refine returnsInHanded_of_change_and (C := Tryd.checked) (X := fun w _ => laidMetH Tryd.prog laid2 w) (fun _ _ _ hh h => h.of_heap hh) own started (by kernel_rfl) Tryd.func10
    (ChangeSpec.witness_shaped (enc := enc) (C := Tryd.checked) (os := os) (X := fun w _ => laidMetH Tryd.prog laid2 w) false (World.doorLaid Tryd.prog 19 os) #[.int .u8 0, .bool false, .int .u64 0] 8 rfl (World.shaped_of_RefB (by kernel_rfl) (by kernel_rfl)) (by kernel_rfl) (by kernel_rfl) (by kernel_rfl)
      (door_met os _)) ?_
  intro W base args ds gs before hval0 hW _ hwt hL hsz
  have hval : ∀ (j : Nat) t v, Tryd.f10.params[j]? = some t → args[j]? = some v → Value.okWide Tryd.prog W .any base t v := hval0
  have hW' := hW
  obtain ⟨p, q, hA0, hV, rfl, hfz, hnd⟩ := hW
  have hA : DataW.TrodAll enc Tryd.prog W 0 (fun _ => true) true Tryd.f10.params.toList args.toList ds p := hA0
  rw [Tryd.params10] at hA hval
  obtain ⟨v0, vs0, d0, ds0, p0, q0, hargs, rfl, rfl, h0, r0⟩ := trodAll_cons hA
  obtain ⟨v1, vs1, d1, ds1, p1, q1, rfl, rfl, rfl, h1, r1⟩ := trodAll_cons r0
  obtain ⟨v2, vs2, d2, ds2, p2, q2, rfl, rfl, rfl, h2, r2⟩ := trodAll_cons r1
  obtain ⟨rfl, rfl, rfl⟩ := trodAll_nil r2
  obtain rfl : args = #[v0, v1, v2] := by cases args; simp_all
  obtain ⟨x0, l0⟩ := arg_u8 (own := none) Tryd.underlying5 (hval 0 5 v0 rfl rfl) h0
  obtain ⟨x1, l1⟩ := arg_bool (own := none) Tryd.underlying4 (hval 1 4 v1 rfl rfl) h1
  obtain ⟨x2, l2⟩ := arg_u64 (own := none) Tryd.underlying23 (hval 2 23 v2 rfl rfl) h2
  refine (call_true back10 (ds := [.u8 x0, .bool x1, .u64 x2]) rfl (glob_of_laid hL) (by simp only [lie]; exact ⟨_, _, rfl, l0, _, _, rfl, l1, _, _, rfl, l2, rfl⟩) (by kernel_rfl)).mono fun e W' ⟨he, hb⟩ => ?_
  subst he
  exact ⟨_, rfl, post_law hW' hb laidOut (by kernel_rfl) rfl (by kernel_rfl) Tryd.underlying4 rfl⟩

theorem holds : Rows.IntsBackSaid :=
  OpenClaim.holds_of_wide 10 Tryd.f10 rfl rfl rfl rfl rfl rfl rfl ⟨rfl, rfl, rfl, rfl, rfl⟩ rfl rfl rfl rfl rfl (by kernel_rfl) Tryd.func10 (by kernel_rfl)
    (of_decide_eq_true (by kernel_rfl)) (by unfold Func.isWrapper; first | (rw [if_pos (by decide +kernel)]; kernel_rfl) | (rw [if_neg (by decide +kernel)]; exact ⟨rfl, rfl⟩))
    (fun os started H enc _ => lifted os started H enc)
end Go.Proofs.YtakonchpkchfhaaDoor.intsBack
namespace Go.Proofs.YtakonchpkchfhaaDoor
open Go

theorem intsBackCard_holds : Rows.IntsBackCardSaid :=
  Claim7.holds_tied_plain_at .later [] [.data, .data] true (true, "47245fa915dfebe7f26fed2fc3b09fe84bb547fd18b756b5389db3167ff8c1f7") false
    intsBack.holds (fun _ h => by cases h) (by kernel_rfl) (fun _ h => by cases h) intsBack_row_tie rfl ⟨rfl, rfl⟩ (by kernel_rfl) rfl
    (fun f fn hf hfn => by
      obtain rfl : f = 10 := Option.some.inj ((show Tryd.prog.funcNamed "jacquard/jacquardlaw03.IntsBack" = some 10 by kernel_rfl).symm.trans hf) |>.symm
      obtain rfl : fn = Tryd.f10 := (Option.some.inj (Tryd.func10.symm.trans hfn)).symm
      exact ⟨by kernel_rfl, fun j t ht => by
        rw [Tryd.params10] at ht
        have hm : t ∈ [5, 4, 23] := by simpa using Array.mem_of_getElem? ht
        have hall : ([5, 4, 23].all fun u => !Tryd.prog.wantsStandIn u) = true := by kernel_rfl
        exact (show Tryd.prog.wantsStandIn t = false by simpa using List.all_eq_true.1 hall t hm)⟩)
    (by kernel_rfl)
#print axioms intsBackCard_holds
end Go.Proofs.YtakonchpkchfhaaDoor

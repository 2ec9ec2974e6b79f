/-
  PROVED HERE: the tied card of VintsTimes, for every input: widened products, sums of neighbours, and the dot, are the document's, or its error. No conditions beyond the card's own.
-/
import Derived.Test.YtlicpmhlphhabaaDoorW07i
import Derived.SevenTiedAt
set_option linter.unusedSimpArgs false
set_option linter.unusedVariables false
namespace Go.L07
open Go.Ev Go.Proofs Go.RowKit Go.Wh

abbrev T2x := Int → Bool → Bool → BitVec 64 → BitVec 64 → BitVec 64 → BitVec 64 → BitVec 64
abbrev P2x := Int → Bool → BitVec 64 → BitVec 64 → BitVec 64
abbrev D2x := BitVec 64 → BitVec 64 → BitVec 64 → BitVec 64 → BitVec 64
abbrev F0x := Int → Int
noncomputable def TG (P Q : T2x) (E : F0x) : Ev.Spec := joined fun | [.i .i64 w, .bool s, .bool h, .agg [.u64 a0, .u64 a1], .agg [.u64 b0, .u64 b1]] => some (.tup [vec (P w s h a0 a1 b0 b1) (Q w s h a0 a1 b0 b1), .i .i64 (E w)]) | _ => none
noncomputable def PG (P Q : P2x) (E : F0x) : Ev.Spec := joined fun | [.i .i64 w, .bool s, .agg [.u64 a0, .u64 a1]] => some (.tup [vec (P w s a0 a1) (Q w s a0 a1), .i .i64 (E w)]) | _ => none
noncomputable def DG (P Q : D2x) : Ev.Spec := joined fun | [.agg [.u64 a0, .u64 a1], .agg [.u64 b0, .u64 b1]] => some (.tup [vec (P a0 a1 b0 b1) (Q a0 a1 b0 b1), .i .i64 0]) | _ => none
abbrev tP : T2x := fun w s h a0 a1 b0 b1 => ifF (inW w) (vecF (2 * w) (timL extN w s h a0 a1 b0 b1)).1
abbrev tQ : T2x := fun w s h a0 a1 b0 b1 => ifF (inW w) (vecF (2 * w) (timL extN w s h a0 a1 b0 b1)).2
abbrev rP : P2x := fun w s a0 a1 => ifF (inP w) (vecF (2 * w) (prsL extN w s a0 a1)).1
abbrev rQ : P2x := fun w s a0 a1 => ifF (inP w) (vecF (2 * w) (prsL extN w s a0 a1)).2
abbrev dP : D2x := fun a0 a1 b0 b1 => (vecF 32 (dotL a0 a1 b0 b1)).1
abbrev dQ : D2x := fun a0 a1 b0 b1 => (vecF 32 (dotL a0 a1 b0 b1)).2
theorem g36 : Snd 36 (TG tP tQ (fun w => errF (inW w))) := t_vTim
theorem g38 : Snd 38 (TG tP tQ (fun w => errF (inW w))) := t_rvTim
theorem g23 : Snd 23 (PG rP rQ (fun w => errF (inP w))) := t_vPrs
theorem g39 : Snd 39 (PG rP rQ (fun w => errF (inP w))) := t_rvPrs
theorem g37 : Snd 37 (DG dP dQ) := t_vDot
theorem g40 : Snd 40 (DG dP dQ) := t_rvDot

def chainT : List Bool → Option D
  | [] => some (.bool true)
  | b :: l => if b = true then chainT l else some (.bool false)
theorem chainT_all : ∀ {l : List Bool}, (∀ b ∈ l, b = true) → chainT l = some (.bool true)
  | [], _ => rfl
  | b :: l, h => by
    simp only [chainT, h b List.mem_cons_self, if_true]
    exact chainT_all fun c hc => h c (List.mem_cons_of_mem _ hc)

theorem nf12 (P Q : T2x) (E : F0x) (P2 Q2 : P2x) (E2 : F0x) (P3 Q3 : D2x) (w : Int) (s hi : Bool) (a0 a1 b0 b1 : BitVec 64) : ex [(36, TG P Q E), (38, TG P Q E), (23, PG P2 Q2 E2), (39, PG P2 Q2 E2), (37, DG P3 Q3), (40, DG P3 Q3), (15, worksS)] (fun _ => []) Tryd.f12 [.i .i64 w, .bool s, .bool hi, vec a0 a1, vec b0 b1] some =
  chainT [(P w s hi a0 a1 b0 b1 == P w s hi a0 a1 b0 b1 && Q w s hi a0 a1 b0 b1 == Q w s hi a0 a1 b0 b1), (E w == E w), (P2 w s a0 a1 == P2 w s a0 a1 && Q2 w s a0 a1 == Q2 w s a0 a1), (E2 w == E2 w), (P3 a0 a1 b0 b1 == P3 a0 a1 b0 b1 && Q3 a0 a1 b0 b1 == Q3 a0 a1 b0 b1)] := by kernel_rfl
theorem times12 : Snd 12 (trueS fun | [.i .i64 _, .bool _, .bool _, .agg [.u64 _, .u64 _], .agg [.u64 _, .u64 _]] => true | _ => false) := by
  refine Sound.guard (execFn_sound (ann := fun _ => []) (TableOK.cons g36 (TableOK.cons g38 (TableOK.cons g23 (TableOK.cons g39 (TableOK.cons g37 (TableOK.cons g40 (TableOK.cons t_works TableOK.nil))))))) mixed Tryd.func12 (by kernel_rfl) 50) fun ds d h => ?_
  simp only [Option.some.injEq, Prod.mk.injEq] at h
  obtain ⟨h, rfl⟩ := h
  split at h
  · rename_i w s hi a0 a1 b0 b1
    refine (nf12 _ _ _ _ _ _ _ _ w s hi a0 a1 b0 b1).trans ?_
    exact chainT_all (by simp)
  · cases h

end Go.L07
namespace Go.Proofs.YtlicpmhlphhabaaDoor.vintsTimes
open Go Go.L07 Go.Ev Go.RowKit Go.ChangeShapes Go.WideShapes Go.ChangeAt
set_option maxRecDepth 100000 in
theorem lifted (os : Os) (started : os.Started) (H : Type) (enc : TypeId × Value → H) :
    ReturnsInHanded {} Tryd.checked os 12 .any (fun w args => (Rows.vintsTimesSpec.pre enc Tryd.prog Tryd.f12 [] false w args ∧ laidMetH Tryd.prog laid2 w) ∧ sizedMet enc Tryd.prog Tryd.f12 (OpenSpec.ofChange Rows.vintsTimesSpec) false w args)
      (Rows.vintsTimesSpec.post enc Tryd.prog Tryd.f12 false true false false) := by
  refine returnsInHanded_of_change_and (C := Tryd.checked) (X := fun w _ => laidMetH Tryd.prog laid2 w) (fun _ _ _ hh h => h.of_heap hh) own started (by kernel_rfl) Tryd.func12
    (ChangeSpec.witness_shaped (enc := enc) (C := Tryd.checked) (os := os) (X := fun w _ => laidMetH Tryd.prog laid2 w) false (World.doorLaid Tryd.prog 19 os) #[.int .i64 0, .bool false, .bool false, .agg #[.int .u64 0, .int .u64 0], .agg #[.int .u64 0, .int .u64 0]] 8 rfl (World.shaped_of_RefB (by kernel_rfl) (by kernel_rfl)) (by kernel_rfl) (by kernel_rfl) (by kernel_rfl)
      (door_met os _)) ?_
  intro W base args ds gs before hval0 hW _ hwt hL hsz
  have hval : ∀ (j : Nat) t v, Tryd.f12.params[j]? = some t → args[j]? = some v → Value.okWide Tryd.prog W .any base t v := hval0
  have hW' := hW
  obtain ⟨p, q, hA0, hV, rfl, hfz, hnd⟩ := hW
  have hA : DataW.TrodAll enc Tryd.prog W 0 (fun _ => true) true Tryd.f12.params.toList args.toList ds p := hA0
  rw [Tryd.params12] at hA hval
  obtain ⟨v0, vs0, d0, ds0, p0, q0, hargs, rfl, rfl, h0, r0⟩ := trodAll_cons hA
  obtain ⟨v1, vs1, d1, ds1, p1, q1, rfl, rfl, rfl, h1, r1⟩ := trodAll_cons r0
  obtain ⟨v2, vs2, d2, ds2, p2, q2, rfl, rfl, rfl, h2, r2⟩ := trodAll_cons r1
  obtain ⟨v3, vs3, d3, ds3, p3, q3, rfl, rfl, rfl, h3, r3⟩ := trodAll_cons r2
  obtain ⟨v4, vs4, d4, ds4, p4, q4, rfl, rfl, rfl, h4, r4⟩ := trodAll_cons r3
  obtain ⟨rfl, rfl, rfl⟩ := trodAll_nil r4
  obtain rfl : args = #[v0, v1, v2, v3, v4] := by cases args; simp_all
  obtain ⟨n0, l0, w0⟩ := arg_i64 (own := none) Tryd.underlying3 (hval 0 3 v0 rfl rfl) h0
  obtain ⟨x1, l1⟩ := arg_bool (own := none) Tryd.underlying4 (hval 1 4 v1 rfl rfl) h1
  obtain ⟨x2, l2⟩ := arg_bool (own := none) Tryd.underlying4 (hval 2 4 v2 rfl rfl) h2
  obtain ⟨x3, y3, l3⟩ := a_vec (own := none) (hval 3 25 v3 rfl rfl) h3
  obtain ⟨x4, y4, l4⟩ := a_vec (own := none) (hval 4 25 v4 rfl rfl) h4
  refine (call_true times12 (ds := [.i .i64 n0, .bool x1, .bool x2, vec x3 y3, vec x4 y4]) rfl (glob_of_laid hL) (by simp only [lie]; exact ⟨_, _, rfl, l0, _, _, rfl, l1, _, _, rfl, l2, _, _, rfl, l3, _, _, rfl, l4, rfl⟩) (by kernel_rfl)).mono fun e W' ⟨he, hb⟩ => ?_
  subst he
  exact ⟨_, rfl, post_law hW' hb laidOut (by kernel_rfl) rfl (by kernel_rfl) Tryd.underlying4 rfl⟩

theorem holds : Rows.VintsTimesSaid :=
  OpenClaim.holds_of_wide 12 Tryd.f12 rfl rfl rfl rfl rfl rfl rfl ⟨rfl, rfl, rfl, rfl, rfl⟩ rfl rfl rfl rfl rfl (by kernel_rfl) Tryd.func12 (by kernel_rfl)
    (of_decide_eq_true (by kernel_rfl)) (by unfold Func.isWrapper; first | (rw [if_pos (by decide +kernel)]; kernel_rfl) | (rw [if_neg (by decide +kernel)]; exact ⟨rfl, rfl⟩))
    (fun os started H enc _ => lifted os started H enc)
end Go.Proofs.YtlicpmhlphhabaaDoor.vintsTimes
namespace Go.Proofs.YtlicpmhlphhabaaDoor
open Go

theorem vintsTimesCard_holds : Rows.VintsTimesCardSaid :=
  Claim7.holds_tied_plain_at .later [] [.data, .data] true (true, "90bfb9091962d32cfb84b45d5e24cb5b4bf6a9b0a558cfb03f8975f9e19d4995") false
    vintsTimes.holds (fun _ h => by cases h) (by kernel_rfl) (fun _ h => by cases h) vintsTimes_row_tie rfl ⟨rfl, rfl⟩ (by kernel_rfl) rfl
    (fun f fn hf hfn => by
      obtain rfl : f = 12 := Option.some.inj ((show Tryd.prog.funcNamed "jacquard/jacquardlaw07.VintsTimes" = some 12 by kernel_rfl).symm.trans hf) |>.symm
      obtain rfl : fn = Tryd.f12 := (Option.some.inj (Tryd.func12.symm.trans hfn)).symm
      exact ⟨by kernel_rfl, fun j t ht => by
        rw [Tryd.params12] at ht
        have hm : t ∈ [3, 4, 4, 25, 25] := by simpa using Array.mem_of_getElem? ht
        have hall : ([3, 4, 4, 25, 25].all fun u => !Tryd.prog.wantsStandIn u) = true := by kernel_rfl
        exact (show Tryd.prog.wantsStandIn t = false by simpa using List.all_eq_true.1 hall t hm)⟩)
    (by kernel_rfl)
#print axioms vintsTimesCard_holds
end Go.Proofs.YtlicpmhlphhabaaDoor

/-
  PROVED HERE: the tied card of VintsHalves, for every input: lanes are narrowed and widened as the document says, or its error. No conditions beyond the card's own.
-/
import Derived.Test.YtlicpmhlphhabaaDoorW07h
import Derived.SevenTiedAt
set_option linter.unusedSimpArgs false
set_option linter.unusedVariables false
namespace Go.L07
open Go.Ev Go.Proofs Go.RowKit Go.Wh

abbrev N2x := Int → Bool → BitVec 64 → BitVec 64 → BitVec 64 → BitVec 64 → BitVec 64
abbrev W2x := Int → Bool → Bool → BitVec 64 → BitVec 64 → BitVec 64
abbrev F0x := Int → Int
noncomputable def NG (P Q : N2x) (E : F0x) : Ev.Spec := joined fun | [.i .i64 w, .bool s, .agg [.u64 a0, .u64 a1], .agg [.u64 b0, .u64 b1]] => some (.tup [vec (P w s a0 a1 b0 b1) (Q w s a0 a1 b0 b1), .i .i64 (E w)]) | _ => none
noncomputable def WG (P Q : W2x) (E : F0x) : Ev.Spec := joined fun | [.i .i64 w, .bool s, .bool h, .agg [.u64 a0, .u64 a1]] => some (.tup [vec (P w s h a0 a1) (Q w s h a0 a1), .i .i64 (E w)]) | _ => none
theorem g32 : Snd 32 (NG (fun w s a0 a1 b0 b1 => ifF (inN w) (vecF (w / 2) (narL narN w s a0 a1 b0 b1)).1) (fun w s a0 a1 b0 b1 => ifF (inN w) (vecF (w / 2) (narL narN w s a0 a1 b0 b1)).2) (fun w => errF (inN w))) := t_vNar
theorem g33 : Snd 33 (NG (fun w s a0 a1 b0 b1 => ifF (inN w) (vecF (w / 2) (narL narN w s a0 a1 b0 b1)).1) (fun w s a0 a1 b0 b1 => ifF (inN w) (vecF (w / 2) (narL narN w s a0 a1 b0 b1)).2) (fun w => errF (inN w))) := t_rvNar
theorem g34 : Snd 34 (WG (fun w s h a0 a1 => ifF (inW w) (vecF (2 * w) (wideL extN w s h a0 a1)).1) (fun w s h a0 a1 => ifF (inW w) (vecF (2 * w) (wideL extN w s h a0 a1)).2) (fun w => errF (inW w))) := t_vWide
theorem g35 : Snd 35 (WG (fun w s h a0 a1 => ifF (inW w) (vecF (2 * w) (wideL extN w s h a0 a1)).1) (fun w s h a0 a1 => ifF (inW w) (vecF (2 * w) (wideL extN w s h a0 a1)).2) (fun w => errF (inW w))) := t_rvWide

def chainT : List Bool → Option D
  | [] => some (.bool true)
  | b :: l => if b = true then chainT l else some (.bool false)
theorem chainT_all : ∀ {l : List Bool}, (∀ b ∈ l, b = true) → chainT l = some (.bool true)
  | [], _ => rfl
  | b :: l, h => by
    simp only [chainT, h b List.mem_cons_self, if_true]
    exact chainT_all fun c hc => h c (List.mem_cons_of_mem _ hc)

theorem nf8 (P Q : N2x) (E : F0x) (P2 Q2 : W2x) (E2 : F0x) (w : Int) (s hi : Bool) (a0 a1 b0 b1 : BitVec 64) : ex [(32, NG P Q E), (33, NG P Q E), (34, WG P2 Q2 E2), (35, WG P2 Q2 E2), (15, worksS)] (fun _ => []) Tryd.f8 [.i .i64 w, .bool s, .bool hi, vec a0 a1, vec b0 b1] some =
  chainT [(P w s a0 a1 b0 b1 == P w s a0 a1 b0 b1 && Q w s a0 a1 b0 b1 == Q w s a0 a1 b0 b1), (E w == E w), (P2 w s hi a0 a1 == P2 w s hi a0 a1 && Q2 w s hi a0 a1 == Q2 w s hi a0 a1), (E2 w == E2 w)] := by kernel_rfl
theorem halves8 : Snd 8 (trueS fun | [.i .i64 _, .bool _, .bool _, .agg [.u64 _, .u64 _], .agg [.u64 _, .u64 _]] => true | _ => false) := by
  refine Sound.guard (execFn_sound (ann := fun _ => []) (TableOK.cons g32 (TableOK.cons g33 (TableOK.cons g34 (TableOK.cons g35 (TableOK.cons t_works TableOK.nil))))) mixed Tryd.func8 (by kernel_rfl) 50) fun ds d h => ?_
  simp only [Option.some.injEq, Prod.mk.injEq] at h
  obtain ⟨h, rfl⟩ := h
  split at h
  · rename_i w s hi a0 a1 b0 b1
    refine (nf8 _ _ _ _ _ _ w s hi a0 a1 b0 b1).trans ?_
    exact chainT_all (by simp)
  · cases h

end Go.L07
namespace Go.Proofs.YtlicpmhlphhabaaDoor.vintsHalves
open Go Go.L07 Go.Ev Go.RowKit Go.ChangeShapes Go.WideShapes Go.ChangeAt
set_option maxRecDepth 100000 in
theorem lifted (os : Os) (started : os.Started) (H : Type) (enc : TypeId × Value → H) :
    ReturnsInHanded {} Tryd.checked os 8 .any (fun w args => (Rows.vintsHalvesSpec.pre enc Tryd.prog Tryd.f8 [] false w args ∧ laidMetH Tryd.prog laid2 w) ∧ sizedMet enc Tryd.prog Tryd.f8 (OpenSpec.ofChange Rows.vintsHalvesSpec) false w args)
      (Rows.vintsHalvesSpec.post enc Tryd.prog Tryd.f8 false true false false) := by
  refine returnsInHanded_of_change_and (C := Tryd.checked) (X := fun w _ => laidMetH Tryd.prog laid2 w) (fun _ _ _ hh h => h.of_heap hh) own started (by kernel_rfl) Tryd.func8
    (ChangeSpec.witness_shaped (enc := enc) (C := Tryd.checked) (os := os) (X := fun w _ => laidMetH Tryd.prog laid2 w) false (World.doorLaid Tryd.prog 19 os) #[.int .i64 0, .bool false, .bool false, .agg #[.int .u64 0, .int .u64 0], .agg #[.int .u64 0, .int .u64 0]] 8 rfl (World.shaped_of_RefB (by kernel_rfl) (by kernel_rfl)) (by kernel_rfl) (by kernel_rfl) (by kernel_rfl)
      (door_met os _)) ?_
  intro W base args ds gs before hval0 hW _ hwt hL hsz
  have hval : ∀ (j : Nat) t v, Tryd.f8.params[j]? = some t → args[j]? = some v → Value.okWide Tryd.prog W .any base t v := hval0
  have hW' := hW
  obtain ⟨p, q, hA0, hV, rfl, hfz, hnd⟩ := hW
  have hA : DataW.TrodAll enc Tryd.prog W 0 (fun _ => true) true Tryd.f8.params.toList args.toList ds p := hA0
  rw [Tryd.params8] at hA hval
  obtain ⟨v0, vs0, d0, ds0, p0, q0, hargs, rfl, rfl, h0, r0⟩ := trodAll_cons hA
  obtain ⟨v1, vs1, d1, ds1, p1, q1, rfl, rfl, rfl, h1, r1⟩ := trodAll_cons r0
  obtain ⟨v2, vs2, d2, ds2, p2, q2, rfl, rfl, rfl, h2, r2⟩ := trodAll_cons r1
  obtain ⟨v3, vs3, d3, ds3, p3, q3, rfl, rfl, rfl, h3, r3⟩ := trodAll_cons r2
  obtain ⟨v4, vs4, d4, ds4, p4, q4, rfl, rfl, rfl, h4, r4⟩ := trodAll_cons r3
  obtain ⟨rfl, rfl, rfl⟩ := trodAll_nil r4
  obtain rfl : args = #[v0, v1, v2, v3, v4] := by cases args; simp_all
  obtain ⟨n0, l0, w0⟩ := arg_i64 (own := none) Tryd.underlying3 (hval 0 3 v0 rfl rfl) h0
  obtain ⟨x1, l1⟩ := arg_bool (own := none) Tryd.underlying4 (hval 1 4 v1 rfl rfl) h1
  obtain ⟨x2, l2⟩ := arg_bool (own := none) Tryd.underlying4 (hval 2 4 v2 rfl rfl) h2
  obtain ⟨x3, y3, l3⟩ := a_vec (own := none) (hval 3 25 v3 rfl rfl) h3
  obtain ⟨x4, y4, l4⟩ := a_vec (own := none) (hval 4 25 v4 rfl rfl) h4
  refine (call_true halves8 (ds := [.i .i64 n0, .bool x1, .bool x2, vec x3 y3, vec x4 y4]) rfl (glob_of_laid hL) (by simp only [lie]; exact ⟨_, _, rfl, l0, _, _, rfl, l1, _, _, rfl, l2, _, _, rfl, l3, _, _, rfl, l4, rfl⟩) (by kernel_rfl)).mono fun e W' ⟨he, hb⟩ => ?_
  subst he
  exact ⟨_, rfl, post_law hW' hb laidOut (by kernel_rfl) rfl (by kernel_rfl) Tryd.underlying4 rfl⟩

theorem holds : Rows.VintsHalvesSaid :=
  OpenClaim.holds_of_wide 8 Tryd.f8 rfl rfl rfl rfl rfl rfl rfl ⟨rfl, rfl, rfl, rfl, rfl⟩ rfl rfl rfl rfl rfl (by kernel_rfl) Tryd.func8 (by kernel_rfl)
    (of_decide_eq_true (by kernel_rfl)) (by unfold Func.isWrapper; first | (rw [if_pos (by decide +kernel)]; kernel_rfl) | (rw [if_neg (by decide +kernel)]; exact ⟨rfl, rfl⟩))
    (fun os started H enc _ => lifted os started H enc)
end Go.Proofs.YtlicpmhlphhabaaDoor.vintsHalves
namespace Go.Proofs.YtlicpmhlphhabaaDoor
open Go

theorem vintsHalvesCard_holds : Rows.VintsHalvesCardSaid :=
  Claim7.holds_tied_plain_at .later [] [.data, .data] true (true, "90bfb9091962d32cfb84b45d5e24cb5b4bf6a9b0a558cfb03f8975f9e19d4995") false
    vintsHalves.holds (fun _ h => by cases h) (by kernel_rfl) (fun _ h => by cases h) vintsHalves_row_tie rfl ⟨rfl, rfl⟩ (by kernel_rfl) rfl
    (fun f fn hf hfn => by
      obtain rfl : f = 8 := Option.some.inj ((show Tryd.prog.funcNamed "jacquard/jacquardlaw07.VintsHalves" = some 8 by kernel_rfl).symm.trans hf) |>.symm
      obtain rfl : fn = Tryd.f8 := (Option.some.inj (Tryd.func8.symm.trans hfn)).symm
      exact ⟨by kernel_rfl, fun j t ht => by
        rw [Tryd.params8] at ht
        have hm : t ∈ [3, 4, 4, 25, 25] := by simpa using Array.mem_of_getElem? ht
        have hall : ([3, 4, 4, 25, 25].all fun u => !Tryd.prog.wantsStandIn u) = true := by kernel_rfl
        exact (show Tryd.prog.wantsStandIn t = false by simpa using List.all_eq_true.1 hall t hm)⟩)
    (by kernel_rfl)
#print axioms vintsHalvesCard_holds
end Go.Proofs.YtlicpmhlphhabaaDoor

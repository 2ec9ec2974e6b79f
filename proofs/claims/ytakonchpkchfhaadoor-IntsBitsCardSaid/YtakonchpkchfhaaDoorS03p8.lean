/-
  PROVED HERE: the tied card of IntsBits, for every input: what is not, and 1, is what is below 0; counts of bits fit together; a and b's common bits, and those of one, and their sum. No conditions beyond the card's own.
-/
import Derived.Test.YtakonchpkchfhaaDoorWhD
import Derived.Test.YtakonchpkchfhaaDoorS03o
import Derived.SevenTiedAt
set_option linter.unusedSimpArgs false
set_option linter.unusedVariables false
namespace Go.L03
open Go.Ev Go.Proofs Go.RowKit Go.Wh

theorem nf8 (U : BitVec 8 → Int → BitVec 64 → BitVec 64) (R : BitVec 8 → Int → BitVec 64 → Int) (N : BitVec 8 → Int → BitVec 64 → BitVec 64 → BitVec 64) (W : BitVec 8 → Int) (O : Int → BitVec 64 → BitVec 64) (n : BitVec 8) (a b : BitVec 64) : ex [(16, OneH U R), (20, two1G N), (18, widG W), (19, ofG O), (15, worksS)] (fun _ => []) Tryd.f8 [.u8 n, .u64 a, .u64 b] some = bitsT U N (W n) (O (W n) a) (O (W n) b) := by kernel_rfl
theorem bits8 : Snd 8 (trueS fun | [.u8 _, .u64 _, .u64 _] => true | _ => false) := by
  refine Sound.guard (execFn_sound (ann := fun _ => []) (TableOK.cons t_One (TableOK.cons t_two1 (TableOK.cons t_wid (TableOK.cons t_of (TableOK.cons t_works TableOK.nil))))) mixed Tryd.func8 (by kernel_rfl) 50) fun ds d h => ?_
  simp only [Option.some.injEq, Prod.mk.injEq] at h
  obtain ⟨h, rfl⟩ := h
  split at h
  · rename_i n a b
    have h := okW_wid n
    exact (nf8 oneN oneR twoN widF (fun w a => a &&& maskF w) n a b).trans (bits_end (fit_and h a) (fit_and h b))
  · cases h

end Go.L03
namespace Go.Proofs.YtakonchpkchfhaaDoor.intsBits
open Go Go.L03 Go.Ev Go.RowKit Go.ChangeShapes Go.WideShapes Go.ChangeAt
set_option maxRecDepth 100000 in
theorem lifted (os : Os) (started : os.Started) (H : Type) (enc : TypeId × Value → H) :
    ReturnsInHanded {} Tryd.checked os 8 .any (fun w args => (Rows.intsBitsSpec.pre enc Tryd.prog Tryd.f8 [] false w args ∧ laidMetH Tryd.prog laid2 w) ∧ sizedMet enc Tryd.prog Tryd.f8 (OpenSpec.ofChange Rows.intsBitsSpec) false w args)
      (Rows.intsBitsSpec.post enc Tryd.prog Tryd.f8 false true false false) := by
  refine returnsInHanded_of_change_and (C := Tryd.checked) (X := fun w _ => laidMetH Tryd.prog laid2 w) (fun _ _ _ hh h => h.of_heap hh) own started (by kernel_rfl) Tryd.func8
    (ChangeSpec.witness_shaped (enc := enc) (C := Tryd.checked) (os := os) (X := fun w _ => laidMetH Tryd.prog laid2 w) false (World.doorLaid Tryd.prog 19 os) #[.int .u8 0, .int .u64 0, .int .u64 0] 8 rfl (World.shaped_of_RefB (by kernel_rfl) (by kernel_rfl)) (by kernel_rfl) (by kernel_rfl) (by kernel_rfl)
      (door_met os _)) ?_
  intro W base args ds gs before hval0 hW _ hwt hL hsz
  have hval : ∀ (j : Nat) t v, Tryd.f8.params[j]? = some t → args[j]? = some v → Value.okWide Tryd.prog W .any base t v := hval0
  have hW' := hW
  obtain ⟨p, q, hA0, hV, rfl, hfz, hnd⟩ := hW
  have hA : DataW.TrodAll enc Tryd.prog W 0 (fun _ => true) true Tryd.f8.params.toList args.toList ds p := hA0
  rw [Tryd.params8] at hA hval
  obtain ⟨v0, vs0, d0, ds0, p0, q0, hargs, rfl, rfl, h0, r0⟩ := trodAll_cons hA
  obtain ⟨v1, vs1, d1, ds1, p1, q1, rfl, rfl, rfl, h1, r1⟩ := trodAll_cons r0
  obtain ⟨v2, vs2, d2, ds2, p2, q2, rfl, rfl, rfl, h2, r2⟩ := trodAll_cons r1
  obtain ⟨rfl, rfl, rfl⟩ := trodAll_nil r2
  obtain rfl : args = #[v0, v1, v2] := by cases args; simp_all
  obtain ⟨x0, l0⟩ := arg_u8 (own := none) Tryd.underlying5 (hval 0 5 v0 rfl rfl) h0
  obtain ⟨x1, l1⟩ := arg_u64 (own := none) Tryd.underlying23 (hval 1 23 v1 rfl rfl) h1
  obtain ⟨x2, l2⟩ := arg_u64 (own := none) Tryd.underlying23 (hval 2 23 v2 rfl rfl) h2
  refine (call_true bits8 (ds := [.u8 x0, .u64 x1, .u64 x2]) rfl (glob_of_laid hL) (by simp only [lie]; exact ⟨_, _, rfl, l0, _, _, rfl, l1, _, _, rfl, l2, rfl⟩) (by kernel_rfl)).mono fun e W' ⟨he, hb⟩ => ?_
  subst he
  exact ⟨_, rfl, post_law hW' hb laidOut (by kernel_rfl) rfl (by kernel_rfl) Tryd.underlying4 rfl⟩

theorem holds : Rows.IntsBitsSaid :=
  OpenClaim.holds_of_wide 8 Tryd.f8 rfl rfl rfl rfl rfl rfl rfl ⟨rfl, rfl, rfl, rfl, rfl⟩ rfl rfl rfl rfl rfl (by kernel_rfl) Tryd.func8 (by kernel_rfl)
    (of_decide_eq_true (by kernel_rfl)) (by unfold Func.isWrapper; first | (rw [if_pos (by decide +kernel)]; kernel_rfl) | (rw [if_neg (by decide +kernel)]; exact ⟨rfl, rfl⟩))
    (fun os started H enc _ => lifted os started H enc)
end Go.Proofs.YtakonchpkchfhaaDoor.intsBits
namespace Go.Proofs.YtakonchpkchfhaaDoor
open Go

theorem intsBitsCard_holds : Rows.IntsBitsCardSaid :=
  Claim7.holds_tied_plain_at .later [] [.data, .data] true (true, "47245fa915dfebe7f26fed2fc3b09fe84bb547fd18b756b5389db3167ff8c1f7") false
    intsBits.holds (fun _ h => by cases h) (by kernel_rfl) (fun _ h => by cases h) intsBits_row_tie rfl ⟨rfl, rfl⟩ (by kernel_rfl) rfl
    (fun f fn hf hfn => by
      obtain rfl : f = 8 := Option.some.inj ((show Tryd.prog.funcNamed "jacquard/jacquardlaw03.IntsBits" = some 8 by kernel_rfl).symm.trans hf) |>.symm
      obtain rfl : fn = Tryd.f8 := (Option.some.inj (Tryd.func8.symm.trans hfn)).symm
      exact ⟨by kernel_rfl, fun j t ht => by
        rw [Tryd.params8] at ht
        have hm : t ∈ [5, 23, 23] := by simpa using Array.mem_of_getElem? ht
        have hall : ([5, 23, 23].all fun u => !Tryd.prog.wantsStandIn u) = true := by kernel_rfl
        exact (show Tryd.prog.wantsStandIn t = false by simpa using List.all_eq_true.1 hall t hm)⟩)
    (by kernel_rfl)
#print axioms intsBitsCard_holds
end Go.Proofs.YtakonchpkchfhaaDoor

/-
  PROVED HERE: the tied card of VintsThan, for every input: each comparison, whether no lane is 0, and the lanes' highest bits, are the document's, or its error. No conditions beyond the card's own.
-/
import Derived.Test.YtlicpmhlphhabaaDoorW07g
import Derived.SevenTiedAt
set_option linter.unusedSimpArgs false
set_option linter.unusedVariables false
namespace Go.L07
open Go.Ev Go.Proofs Go.RowKit Go.Wh

abbrev A1x := Int → BitVec 64 → BitVec 64 → Bool
abbrev M1x := Int → BitVec 64 → BitVec 64 → BitVec 64
abbrev F1x := Int → BitVec 64 → BitVec 64 → Int
noncomputable def AG (A : A1x) (F : F1x) : Ev.Spec := joined fun | [.i .i64 w, .agg [.u64 a0, .u64 a1]] => some (.tup [.bool (A w a0 a1), .i .i64 (F w a0 a1)]) | _ => none
noncomputable def MG (M : M1x) (F : F1x) : Ev.Spec := joined fun | [.i .i64 w, .agg [.u64 a0, .u64 a1]] => some (.tup [.u64 (M w a0 a1), .i .i64 (F w a0 a1)]) | _ => none
abbrev okH (o : BitVec 8) (w : Int) (a0 a1 b0 b1 : BitVec 64) : Bool := okEach w (rT thanE o w a0 a1 b0 b1) (lV thanC thanE o w a0 a1 b0 b1)
theorem g26 : Snd 26 (V2G (fun o w a0 a1 b0 b1 => ifF (okH o w a0 a1 b0 b1) (vecF w (lV thanC thanE o w a0 a1 b0 b1)).1) (fun o w a0 a1 b0 b1 => ifF (okH o w a0 a1 b0 b1) (vecF w (lV thanC thanE o w a0 a1 b0 b1)).2) (fun o w a0 a1 b0 b1 => errF (okH o w a0 a1 b0 b1))) := t_V26
theorem g27 : Snd 27 (V2G (fun o w a0 a1 b0 b1 => ifF (okH o w a0 a1 b0 b1) (vecF w (lV thanC thanE o w a0 a1 b0 b1)).1) (fun o w a0 a1 b0 b1 => ifF (okH o w a0 a1 b0 b1) (vecF w (lV thanC thanE o w a0 a1 b0 b1)).2) (fun o w a0 a1 b0 b1 => errF (okH o w a0 a1 b0 b1))) := t_V27
theorem g28 : Snd 28 (AG (fun w a0 a1 => okW w && noZero (listF a0 a1 w)) (fun w _ _ => errF (okW w))) := t_vAll
theorem g29 : Snd 29 (AG (fun w a0 a1 => okW w && noZero (listF a0 a1 w)) (fun w _ _ => errF (okW w))) := t_rvAll
theorem g30 : Snd 30 (MG (fun w a0 a1 => ifF (okW w) (hiBits w 0 0#64 (listF a0 a1 w))) (fun w _ _ => errF (okW w))) := t_vMask
theorem g31 : Snd 31 (MG (fun w a0 a1 => ifF (okW w) (hiBits w 0 0#64 (listF a0 a1 w))) (fun w _ _ => errF (okW w))) := t_rvMask

def chainT : List Bool → Option D
  | [] => some (.bool true)
  | b :: l => if b = true then chainT l else some (.bool false)
theorem chainT_all : ∀ {l : List Bool}, (∀ b ∈ l, b = true) → chainT l = some (.bool true)
  | [], _ => rfl
  | b :: l, h => by
    simp only [chainT, h b List.mem_cons_self, if_true]
    exact chainT_all fun c hc => h c (List.mem_cons_of_mem _ hc)

theorem nf7 (P Q : B2x) (E : E2x) (A : A1x) (F : F1x) (M : M1x) (F2 : F1x) (o : BitVec 8) (w : Int) (a0 a1 b0 b1 : BitVec 64) : ex [(26, V2G P Q E), (27, V2G P Q E), (28, AG A F), (29, AG A F), (30, MG M F2), (31, MG M F2), (15, worksS)] (fun _ => []) Tryd.f7 [.u8 o, .i .i64 w, vec a0 a1, vec b0 b1] some =
  chainT [(P o w a0 a1 b0 b1 == P o w a0 a1 b0 b1 && Q o w a0 a1 b0 b1 == Q o w a0 a1 b0 b1), (E o w a0 a1 b0 b1 == E o w a0 a1 b0 b1), (A w a0 a1 == A w a0 a1), (F w a0 a1 == F w a0 a1), (M w a0 a1 == M w a0 a1), (F2 w a0 a1 == F2 w a0 a1)] := by kernel_rfl
theorem than7 : Snd 7 (trueS fun | [.u8 _, .i .i64 _, .agg [.u64 _, .u64 _], .agg [.u64 _, .u64 _]] => true | _ => false) := by
  refine Sound.guard (execFn_sound (ann := fun _ => []) (TableOK.cons g26 (TableOK.cons g27 (TableOK.cons g28 (TableOK.cons g29 (TableOK.cons g30 (TableOK.cons g31 (TableOK.cons t_works TableOK.nil))))))) mixed Tryd.func7 (by kernel_rfl) 50) fun ds d h => ?_
  simp only [Option.some.injEq, Prod.mk.injEq] at h
  obtain ⟨h, rfl⟩ := h
  split at h
  · rename_i o w a0 a1 b0 b1
    refine (nf7 _ _ _ _ _ _ _ o w a0 a1 b0 b1).trans ?_
    exact chainT_all (by simp)
  · cases h

end Go.L07
namespace Go.Proofs.YtlicpmhlphhabaaDoor.vintsThan
open Go Go.L07 Go.Ev Go.RowKit Go.ChangeShapes Go.WideShapes Go.ChangeAt
set_option maxRecDepth 100000 in
theorem lifted (os : Os) (started : os.Started) (H : Type) (enc : TypeId × Value → H) :
    ReturnsInHanded {} Tryd.checked os 7 .any (fun w args => (Rows.vintsThanSpec.pre enc Tryd.prog Tryd.f7 [] false w args ∧ laidMetH Tryd.prog laid2 w) ∧ sizedMet enc Tryd.prog Tryd.f7 (OpenSpec.ofChange Rows.vintsThanSpec) false w args)
      (Rows.vintsThanSpec.post enc Tryd.prog Tryd.f7 false true false false) := by
  refine returnsInHanded_of_change_and (C := Tryd.checked) (X := fun w _ => laidMetH Tryd.prog laid2 w) (fun _ _ _ hh h => h.of_heap hh) own started (by kernel_rfl) Tryd.func7
    (ChangeSpec.witness_shaped (enc := enc) (C := Tryd.checked) (os := os) (X := fun w _ => laidMetH Tryd.prog laid2 w) false (World.doorLaid Tryd.prog 19 os) #[.int .u8 0, .int .i64 0, .agg #[.int .u64 0, .int .u64 0], .agg #[.int .u64 0, .int .u64 0]] 8 rfl (World.shaped_of_RefB (by kernel_rfl) (by kernel_rfl)) (by kernel_rfl) (by kernel_rfl) (by kernel_rfl)
      (door_met os _)) ?_
  intro W base args ds gs before hval0 hW _ hwt hL hsz
  have hval : ∀ (j : Nat) t v, Tryd.f7.params[j]? = some t → args[j]? = some v → Value.okWide Tryd.prog W .any base t v := hval0
  have hW' := hW
  obtain ⟨p, q, hA0, hV, rfl, hfz, hnd⟩ := hW
  have hA : DataW.TrodAll enc Tryd.prog W 0 (fun _ => true) true Tryd.f7.params.toList args.toList ds p := hA0
  rw [Tryd.params7] at hA hval
  obtain ⟨v0, vs0, d0, ds0, p0, q0, hargs, rfl, rfl, h0, r0⟩ := trodAll_cons hA
  obtain ⟨v1, vs1, d1, ds1, p1, q1, rfl, rfl, rfl, h1, r1⟩ := trodAll_cons r0
  obtain ⟨v2, vs2, d2, ds2, p2, q2, rfl, rfl, rfl, h2, r2⟩ := trodAll_cons r1
  obtain ⟨v3, vs3, d3, ds3, p3, q3, rfl, rfl, rfl, h3, r3⟩ := trodAll_cons r2
  obtain ⟨rfl, rfl, rfl⟩ := trodAll_nil r3
  obtain rfl : args = #[v0, v1, v2, v3] := by cases args; simp_all
  obtain ⟨x0, l0⟩ := arg_u8 (own := none) Tryd.underlying22 (hval 0 22 v0 rfl rfl) h0
  obtain ⟨n1, l1, w1⟩ := arg_i64 (own := none) Tryd.underlying3 (hval 1 3 v1 rfl rfl) h1
  obtain ⟨x2, y2, l2⟩ := a_vec (own := none) (hval 2 25 v2 rfl rfl) h2
  obtain ⟨x3, y3, l3⟩ := a_vec (own := none) (hval 3 25 v3 rfl rfl) h3
  refine (call_true than7 (ds := [.u8 x0, .i .i64 n1, vec x2 y2, vec x3 y3]) rfl (glob_of_laid hL) (by simp only [lie]; exact ⟨_, _, rfl, l0, _, _, rfl, l1, _, _, rfl, l2, _, _, rfl, l3, rfl⟩) (by kernel_rfl)).mono fun e W' ⟨he, hb⟩ => ?_
  subst he
  exact ⟨_, rfl, post_law hW' hb laidOut (by kernel_rfl) rfl (by kernel_rfl) Tryd.underlying4 rfl⟩

theorem holds : Rows.VintsThanSaid :=
  OpenClaim.holds_of_wide 7 Tryd.f7 rfl rfl rfl rfl rfl rfl rfl ⟨rfl, rfl, rfl, rfl, rfl⟩ rfl rfl rfl rfl rfl (by kernel_rfl) Tryd.func7 (by kernel_rfl)
    (of_decide_eq_true (by kernel_rfl)) (by unfold Func.isWrapper; first | (rw [if_pos (by decide +kernel)]; kernel_rfl) | (rw [if_neg (by decide +kernel)]; exact ⟨rfl, rfl⟩))
    (fun os started H enc _ => lifted os started H enc)
end Go.Proofs.YtlicpmhlphhabaaDoor.vintsThan
namespace Go.Proofs.YtlicpmhlphhabaaDoor
open Go

theorem vintsThanCard_holds : Rows.VintsThanCardSaid :=
  Claim7.holds_tied_plain_at .later [] [.data, .data] true (true, "90bfb9091962d32cfb84b45d5e24cb5b4bf6a9b0a558cfb03f8975f9e19d4995") false
    vintsThan.holds (fun _ h => by cases h) (by kernel_rfl) (fun _ h => by cases h) vintsThan_row_tie rfl ⟨rfl, rfl⟩ (by kernel_rfl) rfl
    (fun f fn hf hfn => by
      obtain rfl : f = 7 := Option.some.inj ((show Tryd.prog.funcNamed "jacquard/jacquardlaw07.VintsThan" = some 7 by kernel_rfl).symm.trans hf) |>.symm
      obtain rfl : fn = Tryd.f7 := (Option.some.inj (Tryd.func7.symm.trans hfn)).symm
      exact ⟨by kernel_rfl, fun j t ht => by
        rw [Tryd.params7] at ht
        have hm : t ∈ [22, 3, 25, 25] := by simpa using Array.mem_of_getElem? ht
        have hall : ([22, 3, 25, 25].all fun u => !Tryd.prog.wantsStandIn u) = true := by kernel_rfl
        exact (show Tryd.prog.wantsStandIn t = false by simpa using List.all_eq_true.1 hall t hm)⟩)
    (by kernel_rfl)
#print axioms vintsThanCard_holds
end Go.Proofs.YtlicpmhlphhabaaDoor

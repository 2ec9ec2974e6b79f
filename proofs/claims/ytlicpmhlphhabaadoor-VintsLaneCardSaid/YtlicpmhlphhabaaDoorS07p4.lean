/-
  PROVED HERE: the tied card of VintsLane, for every input: each lane of an answer hangs on the two lanes of the same number alone, and is what ints answers of them. No conditions beyond the card's own.
-/
import Derived.Test.YtlicpmhlphhabaaDoorW07e
import Derived.SevenTiedAt
set_option linter.unusedSimpArgs false
set_option linter.unusedVariables false
namespace Go.L07
open Go.Ev Go.Proofs Go.RowKit Go.Wh

def chainT : List Bool → Option D
  | [] => some (.bool true)
  | b :: l => if b = true then chainT l else some (.bool false)
theorem chainT_all : ∀ {l : List Bool}, (∀ b ∈ l, b = true) → chainT l = some (.bool true)
  | [], _ => rfl
  | b :: l, h => by
    simp only [chainT, h b List.mem_cons_self, if_true]
    exact chainT_all fun c hc => h c (List.mem_cons_of_mem _ hc)

theorem t_wid : Snd 16 (widG widF) := by
  refine Sound.join (execFn_sound (ann := fun _ => []) TableOK.nil mixed Tryd.func16 (by kernel_rfl) 50) fun ds d h => ?_
  split at h
  · cases h; kernel_rfl
  · cases h
abbrev G2x := BitVec 64 → BitVec 64 → Int → Int → BitVec 64
abbrev H2x := Int → Int → Int
noncomputable def GG (U : G2x) (H : H2x) : Ev.Spec := joined fun | [.agg [.u64 x, .u64 y], .i .i64 t, .i .i64 i] => some (.tup [.u64 (U x y t i), .i .i64 (H t i)]) | _ => none
abbrev gU : G2x := fun x y t i => ifF (okI t i) (getF x y t i)
theorem g17 : Snd 17 (GG gU (fun t i => errF (okI t i))) := Get13
abbrev oP : B2x := fun o w a0 a1 b0 b1 => ifF (okT twoN twoR o w a0 a1 b0 b1) (vecF w (lT twoN o w a0 a1 b0 b1)).1
abbrev oQ : B2x := fun o w a0 a1 b0 b1 => ifF (okT twoN twoR o w a0 a1 b0 b1) (vecF w (lT twoN o w a0 a1 b0 b1)).2
abbrev oE : E2x := fun o w a0 a1 b0 b1 => errF (okT twoN twoR o w a0 a1 b0 b1)
theorem g13' : Snd 13 (V2G oP oQ oE) := t_V13
theorem chainT_if {b : Bool} {l : List Bool} (h : b = true) : chainT (b :: l) = chainT l := by simp only [chainT, h, if_true]
theorem get_list {x y : BitVec 64} {w i : Int} (hi : okI w i = true) : getF x y w i = (listF x y w).getD i.toNat 0#64 := by
  simp only [okI, Bool.and_eq_true, decide_eq_true_eq] at hi
  obtain ⟨⟨hw, h0⟩, h1⟩ := hi
  have hp := okW_pos hw
  rw [listF_get (by omega), Int.toNat_of_nonneg h0]

theorem nf4 (W : BitVec 8 → Int) (P Q : B2x) (E : E2x) (U : G2x) (H : H2x) (N : B2) (R : E2) (o n : BitVec 8) (a0 a1 b0 b1 : BitVec 64) (i : Int) : ex [(16, widG W), (13, V2G P Q E), (17, GG U H), (18, TwoG N R), (15, worksS)] (fun _ => []) Tryd.f4 [.u8 o, .u8 n, vec a0 a1, vec b0 b1, .i .i64 i] some =
  if decide (i < 0) = false then if W n = 0 then none else if decide (IntKind.i64.wrap (Int.tdiv 128 (W n)) ≤ i) = true then some (D.bool true)
    else if (!(E o (W n) a0 a1 b0 b1 == 0)) = true then chainT [(P o (W n) a0 a1 b0 b1 == 0#64 && Q o (W n) a0 a1 b0 b1 == 0#64)]
    else chainT [(R o (W n) (U a0 a1 (W n) i) (U b0 b1 (W n) i) == 0), (H (W n) i == 0), (U (P o (W n) a0 a1 b0 b1) (Q o (W n) a0 a1 b0 b1) (W n) i == N o (W n) (U a0 a1 (W n) i) (U b0 b1 (W n) i))]
  else some (D.bool true) := by kernel_rfl
theorem lane_two {o : BitVec 8} {w : Int} {a0 a1 b0 b1 : BitVec 64} {i : Int} (hi : okI w i = true) (h : okT twoN twoR o w a0 a1 b0 b1 = true) :
    twoR o w (getF a0 a1 w i) (getF b0 b1 w i) = 0 ∧ getF (vecF w (lT twoN o w a0 a1 b0 b1)).1 (vecF w (lT twoN o w a0 a1 b0 b1)).2 w i = twoN o w (getF a0 a1 w i) (getF b0 b1 w i) := by
  simp only [okT, okEach, Bool.and_eq_true] at h
  obtain ⟨_, hr, hl⟩ := h
  have hi' := hi
  simp only [okI, Bool.and_eq_true, decide_eq_true_eq] at hi'
  obtain ⟨⟨hw, h0⟩, h1⟩ := hi'
  have hp := okW_pos hw
  have ha : i.toNat < (listF a0 a1 w).length := by rw [listF_length]; omega
  have hb : i.toNat < (listF b0 b1 w).length := by rw [listF_length]; omega
  have hz : ∀ {α : Type} (g : BitVec 64 → BitVec 64 → α), i.toNat < (List.zipWith g (listF a0 a1 w) (listF b0 b1 w)).length := fun g => by rw [List.length_zipWith]; omega
  rw [get_list hi (x := a0), get_list hi (x := b0), get_list hi (x := (vecF w (lT twoN o w a0 a1 b0 b1)).1), list_vecF hl]
  unfold lT
  have e1 : (listF a0 a1 w).getD i.toNat 0#64 = (listF a0 a1 w)[i.toNat]'ha := by rw [List.getD_eq_getElem?_getD, List.getElem?_eq_getElem ha]; rfl
  have e2 : (listF b0 b1 w).getD i.toNat 0#64 = (listF b0 b1 w)[i.toNat]'hb := by rw [List.getD_eq_getElem?_getD, List.getElem?_eq_getElem hb]; rfl
  rw [e1, e2]
  constructor
  · have := List.all_eq_true.1 hr _ (List.getElem_mem (hz (twoR o w)))
    rw [List.getElem_zipWith] at this
    simpa using this
  · rw [List.getD_eq_getElem?_getD, List.getElem?_eq_getElem (hz (twoN o w)), List.getElem_zipWith]; rfl
theorem lane4 : Snd 4 (trueS fun | [.u8 _, .u8 _, .agg [.u64 _, .u64 _], .agg [.u64 _, .u64 _], .i .i64 _] => true | _ => false) := by
  refine Sound.guard (execFn_sound (ann := fun _ => []) (TableOK.cons t_wid (TableOK.cons g13' (TableOK.cons g17 (TableOK.cons t_Two (TableOK.cons t_works TableOK.nil))))) mixed Tryd.func4 (by kernel_rfl) 50) fun ds d h => ?_
  simp only [Option.some.injEq, Prod.mk.injEq] at h
  obtain ⟨h, rfl⟩ := h
  split at h
  · rename_i o n a0 a1 b0 b1 i
    refine (nf4 _ _ _ _ _ _ _ _ o n a0 a1 b0 b1 i).trans ?_
    have hw := okW_wid n
    revert hw
    generalize widF n = w
    intro hw
    rw [okW_div hw]
    by_cases h0 : i < 0
    · simp [h0]
    by_cases h1 : 128 / w ≤ i
    · simp [h0, h1, okW_ne hw]
    have hi : okI w i = true := by
      simp only [okI, hw, Bool.true_and, Bool.and_eq_true, decide_eq_true_eq]
      omega
    simp only [h0, h1, okW_ne hw, decide_false, if_true, if_false, Bool.false_eq_true]
    cases hk : okT twoN twoR o w a0 a1 b0 b1
    · have e : oE o w a0 a1 b0 b1 = 2 := by unfold oE; rw [hk]; rfl
      rw [e, if_pos (by decide)]
      refine chainT_all ?_
      unfold oP oQ
      rw [hk]
      simp [ifF]
    · obtain ⟨e1, e2⟩ := lane_two hi hk
      have e : oE o w a0 a1 b0 b1 = 0 := by unfold oE; rw [hk]; rfl
      rw [e, if_neg (by decide)]
      refine chainT_all ?_
      unfold oP oQ gU
      rw [hk, hi]
      simp only [ifF, if_true, e1, e2, errF]
      simp
  · cases h

end Go.L07
namespace Go.Proofs.YtlicpmhlphhabaaDoor.vintsLane
open Go Go.L07 Go.Ev Go.RowKit Go.ChangeShapes Go.WideShapes Go.ChangeAt
set_option maxRecDepth 100000 in
theorem lifted (os : Os) (started : os.Started) (H : Type) (enc : TypeId × Value → H) :
    ReturnsInHanded {} Tryd.checked os 4 .any (fun w args => (Rows.vintsLaneSpec.pre enc Tryd.prog Tryd.f4 [] false w args ∧ laidMetH Tryd.prog laid2 w) ∧ sizedMet enc Tryd.prog Tryd.f4 (OpenSpec.ofChange Rows.vintsLaneSpec) false w args)
      (Rows.vintsLaneSpec.post enc Tryd.prog Tryd.f4 false true false false) := by
  refine returnsInHanded_of_change_and (C := Tryd.checked) (X := fun w _ => laidMetH Tryd.prog laid2 w) (fun _ _ _ hh h => h.of_heap hh) own started (by kernel_rfl) Tryd.func4
    (ChangeSpec.witness_shaped (enc := enc) (C := Tryd.checked) (os := os) (X := fun w _ => laidMetH Tryd.prog laid2 w) false (World.doorLaid Tryd.prog 19 os) #[.int .u8 0, .int .u8 0, .agg #[.int .u64 0, .int .u64 0], .agg #[.int .u64 0, .int .u64 0], .int .i64 0] 8 rfl (World.shaped_of_RefB (by kernel_rfl) (by kernel_rfl)) (by kernel_rfl) (by kernel_rfl) (by kernel_rfl)
      (door_met os _)) ?_
  intro W base args ds gs before hval0 hW _ hwt hL hsz
  have hval : ∀ (j : Nat) t v, Tryd.f4.params[j]? = some t → args[j]? = some v → Value.okWide Tryd.prog W .any base t v := hval0
  have hW' := hW
  obtain ⟨p, q, hA0, hV, rfl, hfz, hnd⟩ := hW
  have hA : DataW.TrodAll enc Tryd.prog W 0 (fun _ => true) true Tryd.f4.params.toList args.toList ds p := hA0
  rw [Tryd.params4] at hA hval
  obtain ⟨v0, vs0, d0, ds0, p0, q0, hargs, rfl, rfl, h0, r0⟩ := trodAll_cons hA
  obtain ⟨v1, vs1, d1, ds1, p1, q1, rfl, rfl, rfl, h1, r1⟩ := trodAll_cons r0
  obtain ⟨v2, vs2, d2, ds2, p2, q2, rfl, rfl, rfl, h2, r2⟩ := trodAll_cons r1
  obtain ⟨v3, vs3, d3, ds3, p3, q3, rfl, rfl, rfl, h3, r3⟩ := trodAll_cons r2
  obtain ⟨v4, vs4, d4, ds4, p4, q4, rfl, rfl, rfl, h4, r4⟩ := trodAll_cons r3
  obtain ⟨rfl, rfl, rfl⟩ := trodAll_nil r4
  obtain rfl : args = #[v0, v1, v2, v3, v4] := by cases args; simp_all
  obtain ⟨x0, l0⟩ := arg_u8 (own := none) Tryd.underlying22 (hval 0 22 v0 rfl rfl) h0
  obtain ⟨x1, l1⟩ := arg_u8 (own := none) Tryd.underlying5 (hval 1 5 v1 rfl rfl) h1
  obtain ⟨x2, y2, l2⟩ := a_vec (own := none) (hval 2 25 v2 rfl rfl) h2
  obtain ⟨x3, y3, l3⟩ := a_vec (own := none) (hval 3 25 v3 rfl rfl) h3
  obtain ⟨n4, l4, w4⟩ := arg_i64 (own := none) Tryd.underlying3 (hval 4 3 v4 rfl rfl) h4
  refine (call_true lane4 (ds := [.u8 x0, .u8 x1, vec x2 y2, vec x3 y3, .i .i64 n4]) rfl (glob_of_laid hL) (by simp only [lie]; exact ⟨_, _, rfl, l0, _, _, rfl, l1, _, _, rfl, l2, _, _, rfl, l3, _, _, rfl, l4, rfl⟩) (by kernel_rfl)).mono fun e W' ⟨he, hb⟩ => ?_
  subst he
  exact ⟨_, rfl, post_law hW' hb laidOut (by kernel_rfl) rfl (by kernel_rfl) Tryd.underlying4 rfl⟩

theorem holds : Rows.VintsLaneSaid :=
  OpenClaim.holds_of_wide 4 Tryd.f4 rfl rfl rfl rfl rfl rfl rfl ⟨rfl, rfl, rfl, rfl, rfl⟩ rfl rfl rfl rfl rfl (by kernel_rfl) Tryd.func4 (by kernel_rfl)
    (of_decide_eq_true (by kernel_rfl)) (by unfold Func.isWrapper; first | (rw [if_pos (by decide +kernel)]; kernel_rfl) | (rw [if_neg (by decide +kernel)]; exact ⟨rfl, rfl⟩))
    (fun os started H enc _ => lifted os started H enc)
end Go.Proofs.YtlicpmhlphhabaaDoor.vintsLane
namespace Go.Proofs.YtlicpmhlphhabaaDoor
open Go

theorem vintsLaneCard_holds : Rows.VintsLaneCardSaid :=
  Claim7.holds_tied_plain_at .later [] [.data, .data] true (true, "90bfb9091962d32cfb84b45d5e24cb5b4bf6a9b0a558cfb03f8975f9e19d4995") false
    vintsLane.holds (fun _ h => by cases h) (by kernel_rfl) (fun _ h => by cases h) vintsLane_row_tie rfl ⟨rfl, rfl⟩ (by kernel_rfl) rfl
    (fun f fn hf hfn => by
      obtain rfl : f = 4 := Option.some.inj ((show Tryd.prog.funcNamed "jacquard/jacquardlaw07.VintsLane" = some 4 by kernel_rfl).symm.trans hf) |>.symm
      obtain rfl : fn = Tryd.f4 := (Option.some.inj (Tryd.func4.symm.trans hfn)).symm
      exact ⟨by kernel_rfl, fun j t ht => by
        rw [Tryd.params4] at ht
        have hm : t ∈ [22, 5, 25, 25, 3] := by simpa using Array.mem_of_getElem? ht
        have hall : ([22, 5, 25, 25, 3].all fun u => !Tryd.prog.wantsStandIn u) = true := by kernel_rfl
        exact (show Tryd.prog.wantsStandIn t = false by simpa using List.all_eq_true.1 hall t hm)⟩)
    (by kernel_rfl)
#print axioms vintsLaneCard_holds
end Go.Proofs.YtlicpmhlphhabaaDoor

/-
  PROVED HERE: the tied card of ConvsRises, for every input: greater whole numbers make no lesser floats; greater floats are cut to no lesser numbers. No conditions beyond the card's own.
-/
import Derived.Test.YtaabolgkoegohaaDoorC05dh
import Derived.Test.YtaabolgkoegohaaDoorS05dr
import Derived.SevenTiedAt
set_option linter.unusedSimpArgs false
set_option linter.unusedVariables false
namespace Go.L05d
open Go.L05dF Go.Ev Go.Proofs Go.RowKit Go.Wh Go.Fl

noncomputable def itG (V : BitVec 8 → Int → BitVec 64 → BitVec 64 → Bool) (E : BitVec 8 → Int → BitVec 64 → BitVec 64 → Int) : Ev.Spec := joined fun | [.u8 o, .i .i64 w, .u64 a, .u64 b] => some (.tup [.bool (V o w a b), .i .i64 (E o w a b)]) | _ => none
abbrev iV : BitVec 8 → Int → BitVec 64 → BitVec 64 → Bool := fun o w a b => mayF w [a, b] && thanB o w a b
abbrev iE : BitVec 8 → Int → BitVec 64 → BitVec 64 → Int := fun o w a b => errF (mayF w [a, b] && thanO o)
theorem g_ithan : Snd 10 (itG iV iE) := t_Than
theorem g_fthan : Snd 11 (itG fthV fthE) := f_than
def riT (T1 U1 U2 T2 : Bool) : Option D := if T1 = true then if (!U1) = true then some (.bool false) else if (!U2) = false then if T2 = true then some (.bool true) else some (.bool false) else some (.bool true)
  else if (!U2) = false then if T2 = true then some (.bool true) else some (.bool false) else some (.bool true)
section
variable (W : BitVec 8 → Int) (O : Int → BitVec 64 → BitVec 64) (V : VC) (E : EC) (V2 : VC) (E2 : EC) (T : BitVec 8 → Int → BitVec 64 → BitVec 64 → Bool) (TE : BitVec 8 → Int → BitVec 64 → BitVec 64 → Int) (U : BitVec 8 → Int → BitVec 64 → BitVec 64 → Bool) (UE : BitVec 8 → Int → BitVec 64 → BitVec 64 → Int) (n m : BitVec 8) (a b : BitVec 64)
theorem nf4t : ex [(5, widG W), (6, lofG O), (7, CG V E), (12, CG V2 E2), (10, itG T TE), (11, itG U UE), (9, worksS)] (fun _ => []) Tryd.f4 [.u8 n, .u8 m, .bool true, .u64 a, .u64 b] some =
  riT (T 39#8 (W n) (O (W n) a) (O (W n) b)) (U 21#8 (W m) (V (W n) (W m) true (O (W n) a)) (V (W n) (W m) true (O (W n) b))) (U 21#8 (W n) (O (W n) a) (O (W n) b)) (T 39#8 (W m) (V2 (W n) (W m) true (O (W n) a)) (V2 (W n) (W m) true (O (W n) b))) := by kernel_rfl
theorem nf4f : ex [(5, widG W), (6, lofG O), (7, CG V E), (12, CG V2 E2), (10, itG T TE), (11, itG U UE), (9, worksS)] (fun _ => []) Tryd.f4 [.u8 n, .u8 m, .bool false, .u64 a, .u64 b] some =
  riT (T 38#8 (W n) (O (W n) a) (O (W n) b)) (U 21#8 (W m) (V (W n) (W m) false (O (W n) a)) (V (W n) (W m) false (O (W n) b))) (U 21#8 (W n) (O (W n) a) (O (W n) b)) (T 38#8 (W m) (V2 (W n) (W m) false (O (W n) a)) (V2 (W n) (W m) false (O (W n) b))) := by kernel_rfl
end
theorem riT_ok {T1 U1 U2 T2 : Bool} (h1 : T1 = true → U1 = true) (h2 : U2 = true → T2 = true) : riT T1 U1 U2 T2 = some (.bool true) := by
  unfold riT
  revert h1 h2
  cases T1 <;> cases U1 <;> cases U2 <;> cases T2 <;> intro h1 h2 <;> first | rfl | (exact absurd (h1 rfl) (by decide)) | (exact absurd (h2 rfl) (by decide))
def opS (s : Bool) : BitVec 8 := if s = true then 39#8 else 38#8
theorem int_than {w : Int} {a b : BitVec 64} (ha : fitF w a = true) (hb : fitF w b = true) (s : Bool) : iV (opS s) w a b = decide (intV w s a ≤ intV w s b) := by
  show (mayF w [a, b] && thanB (opS s) w a b) = _
  rw [may_two ha hb, Bool.true_and]
  cases s
  · show decide (a ≤ b) = decide (intV w false a ≤ intV w false b)
    rw [intF, intF]
    refine decide_eq_decide.2 ?_
    rw [BitVec.le_def]
    omega
  · show decide (sgnF w a ≤ sgnF w b) = decide (intV w true a ≤ intV w true b)
    rw [intT, intT]
theorem flt_than {w : Int} {a b : BitVec 64} (ha : inF w a = true) (hb : inF w b = true) : fthV 21#8 w a b = (!noW w a && !noW w b && decide (keW w a ≤ keW w b)) := by
  have hm : maW w [a, b] = true := by rw [maW2', ha, hb]; rfl
  unfold fthV
  rw [hm, Bool.true_and]
  show (leW w a b || eqW w a b) = _
  unfold leW eqW
  cases noW w a <;> cases noW w b <;> first | rfl | skip
  simp only [Bool.not_false, Bool.true_and]
  rw [Bool.eq_iff_iff]
  simp only [Bool.or_eq_true, decide_eq_true_eq, beq_iff_eq]
  omega
theorem num_facts {t : Int} (ht : wOK t = true) (s n : Bool) {x : Nat} (hx : x ≤ bnd t s n) : fitF t (numV t n (BitVec.ofNat 64 x)) = true ∧ intV t s (numV t n (BitVec.ofNat 64 x)) = sg n x := by
  have hb : bnd t s n < 2 ^ 64 ∧ (s = true → (bnd t s n : Int) ≤ pw t / 2) ∧ (s = true → n = false → (bnd t s n : Int) < pw t / 2) ∧ (n = false → (bnd t s n : Int) < pw t) ∧ (s = false → n = true → bnd t s n = 0) := by
    rcases wOK_cases ht with rfl | rfl <;> cases s <;> cases n <;> decide
  obtain ⟨b1, b2, b3, b4, b5⟩ := hb
  have ex : (BitVec.ofNat 64 x).toNat = x := by rw [BitVec.toNat_ofNat, Nat.mod_eq_of_lt (by omega)]
  have hpe : pw t % 2 = 0 := by rcases wOK_cases ht with rfl | rfl <;> decide
  cases n
  · have e : numV t false (BitVec.ofNat 64 x) = BitVec.ofNat 64 x := rfl
    rw [e]
    have hlt := b4 rfl
    refine ⟨fit_of ht (by rw [ex]; omega), ?_⟩
    cases s
    · rw [intF, ex]; rfl
    · have := b3 rfl rfl
      rw [intT, sgn_pos (by rw [ex]; omega), ex]; rfl
  · have e : numV t true (BitVec.ofNat 64 x) = 0#64 - BitVec.ofNat 64 x &&& maskF t := rfl
    rw [e]
    refine ⟨fit_and ht _, ?_⟩
    cases s
    · have h0 : x = 0 := by have := b5 rfl rfl; omega
      subst h0
      rw [intF]
      have : (0#64 - BitVec.ofNat 64 0 &&& maskF t) = 0#64 := by
        show (0#64 - 0#64 &&& maskF t) = 0#64
        rw [BitVec.sub_self, BitVec.zero_and]
      rw [this]; rfl
    · rw [intT]
      have e2 : 0#64 - BitVec.ofNat 64 x = BitVec.ofInt 64 (-(x : Int)) := by
        rw [BitVec.ofInt_neg, BitVec.ofInt_natCast, BitVec.zero_sub]
      have := b2 rfl
      have hp : 0 < pw t := by rcases wOK_cases ht with rfl | rfl <;> decide
      rw [e2, sgn_num (wOK_okW ht) (by omega) (by omega)]; rfl
/-- What is held, as a whole number. -/
theorem held_int {f t : Int} (ht : wOK t = true) (s : Bool) {a : BitVec 64} (hn : noW f a = false) : fitF t (hldV f t s a) = true ∧ intV t s (hldV f t s a) = sg (ng (fmW f) a.toNat) (clB' (fmW f) (bnd t s (ng (fmW f) a.toNat)) a.toNat) := by
  have e : hldV f t s a = numV t (ng (fmW f) a.toNat) (BitVec.ofNat 64 (clB' (fmW f) (bnd t s (ng (fmW f) a.toNat)) a.toNat)) := by
    have hn' : isNW f a = false := hn
    unfold hldV
    rw [hn', if_neg (by decide)]
    unfold clB'
    have ef : fitV f t s a = (fin (fmW f) a.toNat && decide (wh (fmW f) a.toNat ≤ bnd t s (ng (fmW f) a.toNat))) := rfl
    rw [ef]
    by_cases hc : (fin (fmW f) a.toNat && decide (wh (fmW f) a.toNat ≤ bnd t s (ng (fmW f) a.toNat))) = true
    · rw [if_pos hc, if_pos hc]; rfl
    · rw [if_neg hc, if_neg hc]; rfl
  rw [e]
  exact num_facts ht s _ (clB_le _ _ _)
theorem rise_ok {w t : Int} (hw : wOK w = true) (ht : wOK t = true) (s : Bool) {a b : BitVec 64} (ha : fitF w a = true) (hb : fitF w b = true) :
    riT (iV (opS s) w a b) (fthV 21#8 t (fV w t s a) (fV w t s b)) (fthV 21#8 w a b) (iV (opS s) t (hV w t s a) (hV w t s b)) = some (.bool true) := by
  have x1 : fV w t s a = flI t (intV w s a) := by show ifF (mayC w t a) _ = _; rw [may_in ha hw ht]; rfl
  have x2 : fV w t s b = flI t (intV w s b) := by show ifF (mayC w t b) _ = _; rw [may_in hb hw ht]; rfl
  have y1 : hV w t s a = hldV w t s a := by show ifF (mayC w t a) _ = _; rw [may_in ha hw ht]; rfl
  have y2 : hV w t s b = hldV w t s b := by show ifF (mayC w t b) _ = _; rw [may_in hb hw ht]; rfl
  rw [x1, x2, y1, y2]
  refine riT_ok (fun h => ?_) (fun h => ?_)
  · rw [int_than ha hb, decide_eq_true_eq] at h
    obtain ⟨a1, a2, _⟩ := flI_facts ht (intV w s a)
    obtain ⟨b1, b2, _⟩ := flI_facts ht (intV w s b)
    rw [flt_than a1 b1, a2, b2, decide_eq_true (flI_mono ht h)]; rfl
  · rw [flt_than (fit_in hw ha) (fit_in hw hb)] at h
    simp only [Bool.and_eq_true, Bool.not_eq_true', decide_eq_true_eq] at h
    obtain ⟨⟨na, nb⟩, hk⟩ := h
    obtain ⟨f1, f2⟩ := held_int (f := w) ht s na
    obtain ⟨g1, g2⟩ := held_int (f := w) ht s nb
    rw [int_than f1 g1, decide_eq_true_eq, f2, g2]
    exact cut_rises (two_fm w) (fun g => bnd t s g) hk
theorem convsRises_s : Snd 4 (trueS fun | [.u8 _, .u8 _, .bool _, .u64 _, .u64 _] => true | _ => false) := by
  refine Sound.guard (execFn_sound (ann := fun _ => []) (TableOK.cons t_wid (TableOK.cons t_lof (TableOK.cons g_float (TableOK.cons g_held (TableOK.cons g_ithan (TableOK.cons g_fthan (TableOK.cons t_works TableOK.nil))))))) mixed Tryd.func4 (by kernel_rfl) 50) fun ds d h => ?_
  simp only [Option.some.injEq, Prod.mk.injEq] at h
  obtain ⟨h, rfl⟩ := h
  split at h
  · rename_i n m s a b
    have hw := ok_wid n
    have ht := ok_wid m
    cases s
    · exact (nf4f _ _ _ _ _ _ _ _ _ _ n m a b).trans (rise_ok hw ht false (fit_and hw a) (fit_and hw b))
    · exact (nf4t _ _ _ _ _ _ _ _ _ _ n m a b).trans (rise_ok hw ht true (fit_and hw a) (fit_and hw b))
  · cases h

end Go.L05d
namespace Go.Proofs.YtaabolgkoegohaaDoor.convsRises
open Go Go.L05d Go.Ev Go.RowKit Go.ChangeShapes Go.WideShapes Go.ChangeAt
set_option maxRecDepth 100000 in
theorem lifted (os : Os) (started : os.Started) (H : Type) (enc : TypeId × Value → H) :
    ReturnsInHanded {} Tryd.checked os 4 .any (fun w args => (Rows.convsRisesSpec.pre enc Tryd.prog Tryd.f4 [] false w args ∧ laidMetH Tryd.prog laid1 w) ∧ sizedMet enc Tryd.prog Tryd.f4 (OpenSpec.ofChange Rows.convsRisesSpec) false w args)
      (Rows.convsRisesSpec.post enc Tryd.prog Tryd.f4 false true false false) := by
  refine returnsInHanded_of_change_and (C := Tryd.checked) (X := fun w _ => laidMetH Tryd.prog laid1 w) (fun _ _ _ hh h => h.of_heap hh) own started (by kernel_rfl) Tryd.func4
    (ChangeSpec.witness_shaped (enc := enc) (C := Tryd.checked) (os := os) (X := fun w _ => laidMetH Tryd.prog laid1 w) false (World.doorLaid Tryd.prog 19 os) #[.int .u8 0, .int .u8 0, .bool false, .int .u64 0, .int .u64 0] 8 rfl (World.shaped_of_RefB (by kernel_rfl) (by kernel_rfl)) (by kernel_rfl) (by kernel_rfl) (by kernel_rfl)
      (door_met1 os _)) ?_
  intro W base args ds gs before hval0 hW _ hwt hL hsz
  have hval : ∀ (j : Nat) t v, Tryd.f4.params[j]? = some t → args[j]? = some v → Value.okWide Tryd.prog W .any base t v := hval0
  have hW' := hW
  obtain ⟨p, q, hA0, hV, rfl, hfz, hnd⟩ := hW
  have hA : DataW.TrodAll enc Tryd.prog W 0 (fun _ => true) true Tryd.f4.params.toList args.toList ds p := hA0
  rw [Tryd.params4] at hA hval
  obtain ⟨v0, vs0, d0, ds0, p0, q0, hargs, rfl, rfl, h0, r0⟩ := trodAll_cons hA
  obtain ⟨v1, vs1, d1, ds1, p1, q1, rfl, rfl, rfl, h1, r1⟩ := trodAll_cons r0
  obtain ⟨v2, vs2, d2, ds2, p2, q2, rfl, rfl, rfl, h2, r2⟩ := trodAll_cons r1
  obtain ⟨v3, vs3, d3, ds3, p3, q3, rfl, rfl, rfl, h3, r3⟩ := trodAll_cons r2
  obtain ⟨v4, vs4, d4, ds4, p4, q4, rfl, rfl, rfl, h4, r4⟩ := trodAll_cons r3
  obtain ⟨rfl, rfl, rfl⟩ := trodAll_nil r4
  obtain rfl : args = #[v0, v1, v2, v3, v4] := by cases args; simp_all
  obtain ⟨x0, l0⟩ := arg_u8 (own := none) Tryd.underlying5 (hval 0 5 v0 rfl rfl) h0
  obtain ⟨x1, l1⟩ := arg_u8 (own := none) Tryd.underlying5 (hval 1 5 v1 rfl rfl) h1
  obtain ⟨x2, l2⟩ := arg_bool (own := none) Tryd.underlying4 (hval 2 4 v2 rfl rfl) h2
  obtain ⟨x3, l3⟩ := arg_u64 (own := none) Tryd.underlying22 (hval 3 22 v3 rfl rfl) h3
  obtain ⟨x4, l4⟩ := arg_u64 (own := none) Tryd.underlying22 (hval 4 22 v4 rfl rfl) h4
  refine (call_true convsRises_s (ds := [.u8 x0, .u8 x1, .bool x2, .u64 x3, .u64 x4]) rfl (glob_of_laid1 hL) (by simp only [lie]; exact ⟨_, _, rfl, l0, _, _, rfl, l1, _, _, rfl, l2, _, _, rfl, l3, _, _, rfl, l4, rfl⟩) (by kernel_rfl)).mono fun e W' ⟨he, hb⟩ => ?_
  subst he
  exact ⟨_, rfl, post_law hW' hb laidOut (by kernel_rfl) rfl (by kernel_rfl) Tryd.underlying4 rfl⟩

theorem holds : Rows.ConvsRisesSaid :=
  OpenClaim.holds_of_wide 4 Tryd.f4 rfl rfl rfl rfl rfl rfl rfl ⟨rfl, rfl, rfl, rfl, rfl⟩ rfl rfl rfl rfl rfl (by kernel_rfl) Tryd.func4 (by kernel_rfl)
    (of_decide_eq_true (by kernel_rfl)) (by unfold Func.isWrapper; first | (rw [if_pos (by decide +kernel)]; kernel_rfl) | (rw [if_neg (by decide +kernel)]; exact ⟨rfl, rfl⟩))
    (fun os started H enc _ => lifted os started H enc)
end Go.Proofs.YtaabolgkoegohaaDoor.convsRises
namespace Go.Proofs.YtaabolgkoegohaaDoor
open Go

theorem convsRisesCard_holds : Rows.ConvsRisesCardSaid :=
  Claim7.holds_tied_plain_at .later [] [.data] true (true, "ba08bf3db07695bf9ef0c846305b0b2d296e7b6ea1b5abd53ebe95b15804ec16") false
    convsRises.holds (fun _ h => by cases h) (by kernel_rfl) (fun _ h => by cases h) convsRises_row_tie rfl ⟨rfl, rfl⟩ (by kernel_rfl) rfl
    (fun f fn hf hfn => by
      obtain rfl : f = 4 := Option.some.inj ((show Tryd.prog.funcNamed "jacquard/jacquardlaw05.ConvsRises" = some 4 by kernel_rfl).symm.trans hf) |>.symm
      obtain rfl : fn = Tryd.f4 := (Option.some.inj (Tryd.func4.symm.trans hfn)).symm
      exact ⟨by kernel_rfl, fun j t ht => by
        rw [Tryd.params4] at ht
        have hm : t ∈ [5, 5, 4, 22, 22] := by simpa using Array.mem_of_getElem? ht
        have hall : ([5, 5, 4, 22, 22].all fun u => !Tryd.prog.wantsStandIn u) = true := by kernel_rfl
        exact (show Tryd.prog.wantsStandIn t = false by simpa using List.all_eq_true.1 hall t hm)⟩)
    (by kernel_rfl)
#print axioms convsRisesCard_holds
end Go.Proofs.YtaabolgkoegohaaDoor

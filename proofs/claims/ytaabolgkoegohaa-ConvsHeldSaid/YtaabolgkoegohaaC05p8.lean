/-
  PROVED HERE: ConvsHeld, for every input: where a cut does not trap, what is held is it; where it does, it is a bound, or 0 of what is no number. No conditions beyond the row's own.
-/
import Derived.Test.YtaabolgkoegohaaC05g
import Derived.Test.YtaabolgkoegohaaC05r
set_option linter.unusedSimpArgs false
set_option linter.unusedVariables false
namespace Go.L05
open Go.Ev Go.Proofs Go.RowKit Go.Wh Go.Fl

abbrev VC := Int → Int → Bool → BitVec 64 → BitVec 64
abbrev EC := Int → Int → Bool → BitVec 64 → Int
noncomputable def CG (V : VC) (E : EC) : Ev.Spec := joined fun | [.i .i64 f, .i .i64 t, .bool s, .u64 a] => some (.tup [.u64 (V f t s a), .i .i64 (E f t s a)]) | _ => none
abbrev cV : VC := fun f t s a => ifF (mayC f t a && fitV f t s a) (hldV f t s a)
abbrev cE : EC := fun f t s a => if mayC f t a = true then (if fitV f t s a = true then 0 else 6) else 2
abbrev hV : VC := fun f t s a => ifF (mayC f t a) (hldV f t s a)
abbrev hE : EC := fun f t _ a => errF (mayC f t a)
theorem g17 : Snd 17 (CG cV cE) := t_Cut
theorem g19 : Snd 19 (CG hV hE) := t_Held

noncomputable def widG (W : BitVec 8 → Int) : Ev.Spec := joined fun | [.u8 n] => some (.i .i64 (W n)) | _ => none
noncomputable def lofG (O : Int → BitVec 64 → BitVec 64) : Ev.Spec := joined fun | [.i .i64 w, .u64 a] => some (.u64 (O w a)) | _ => none
noncomputable def nonG (B : Int → BitVec 64 → Bool) (E : Int → BitVec 64 → Int) : Ev.Spec := joined fun | [.i .i64 w, .u64 a] => some (.tup [.bool (B w a), .i .i64 (E w a)]) | _ => none
def widF (n : BitVec 8) : Int := IntKind.i64.wrap (32 * 2 ^ min (BitVec.setWidth 64 (n % BitVec.ofInt 8 2)).toNat IntKind.i64.bits)
theorem okC_wid (n : BitVec 8) : okC (widF n) = true := by
  revert n; decide +kernel
theorem t_wid : Snd 22 (widG widF) := by
  refine Sound.join (execFn_sound (ann := fun _ => []) TableOK.nil mixed Try.func22 (by kernel_rfl) 50) fun ds d h => ?_
  split at h
  · cases h; kernel_rfl
  · cases h
def lofF (w : Int) (a : BitVec 64) : BitVec 64 := a &&& maskF w
theorem t_lof : Snd 23 (lofG lofF) := by
  refine Sound.join (execFn_sound (ann := fun _ => []) TableOK.nil mixed Try.func23 (by kernel_rfl) 50) fun ds d h => ?_
  split at h
  · cases h; kernel_rfl
  · cases h
theorem g21 : Snd 21 (nonG (fun w a => mayL w [a] && isNW w a) (fun w a => errF (mayL w [a]))) := t_none
def lhL (l h : Bool) : Option D := if l = false then if h = true then some (.bool true) else some (.bool false) else some (.bool true)
def restL (e0 e6 b z l h : Bool) : Option D := if e0 = true then some (.bool true) else if e6 = true then (if b = true then if z = false then (if (!b) = true then lhL l h else some (.bool false)) else some (.bool true) else if (!b) = true then lhL l h else some (.bool false)) else some (.bool false)
def hldL (f0 e0 xy e6 b z l h : Bool) : Option D := if (!f0) = false then if e0 = true then if (!xy) = true then some (.bool false) else restL e0 e6 b z l h else restL e0 e6 b z l h else some (.bool false)
theorem nf8t (W : BitVec 8 → Int) (O : Int → BitVec 64 → BitVec 64) (V : VC) (E : EC) (V2 : VC) (E2 : EC) (B : Int → BitVec 64 → Bool) (N : Int → BitVec 64 → Int) (n m : BitVec 8) (a : BitVec 64) : ex [(22, widG W), (23, lofG O), (17, CG V E), (19, CG V2 E2), (21, nonG B N), (14, worksS)] (fun _ => []) Try.f8 [.u8 n, .u8 m, .bool true, .u64 a] some =
  hldL (E2 (W n) (W m) true (O (W n) a) == 0) (E (W n) (W m) true (O (W n) a) == 0) (V (W n) (W m) true (O (W n) a) == V2 (W n) (W m) true (O (W n) a)) (E (W n) (W m) true (O (W n) a) == 6) (B (W n) (O (W n) a)) (V2 (W n) (W m) true (O (W n) a) == 0#64)
    (V2 (W n) (W m) true (O (W n) a) == 1#64 <<< (BitVec.ofInt 64 (IntKind.i64.wrap (W m - 1))).toNat) (V2 (W n) (W m) true (O (W n) a) == 1#64 <<< (BitVec.ofInt 64 (IntKind.i64.wrap (W m - 1))).toNat - 1#64) := by kernel_rfl
theorem nf8f (W : BitVec 8 → Int) (O : Int → BitVec 64 → BitVec 64) (V : VC) (E : EC) (V2 : VC) (E2 : EC) (B : Int → BitVec 64 → Bool) (N : Int → BitVec 64 → Int) (n m : BitVec 8) (a : BitVec 64) : ex [(22, widG W), (23, lofG O), (17, CG V E), (19, CG V2 E2), (21, nonG B N), (14, worksS)] (fun _ => []) Try.f8 [.u8 n, .u8 m, .bool false, .u64 a] some =
  hldL (E2 (W n) (W m) false (O (W n) a) == 0) (E (W n) (W m) false (O (W n) a) == 0) (V (W n) (W m) false (O (W n) a) == V2 (W n) (W m) false (O (W n) a)) (E (W n) (W m) false (O (W n) a) == 6) (B (W n) (O (W n) a)) (V2 (W n) (W m) false (O (W n) a) == 0#64)
    (V2 (W n) (W m) false (O (W n) a) == 0#64) (V2 (W n) (W m) false (O (W n) a) == O (W m) 18446744073709551615#64) := by kernel_rfl
theorem hldL_ok {f t : Int} {s : Bool} {a lo hi : BitVec 64} (hm : mayC f t a = true) (hlo : numV t true (BitVec.ofNat 64 (bnd t s true)) = lo) (hhi : numV t false (BitVec.ofNat 64 (bnd t s false)) = hi) :
    hldL (hE f t s a == 0) (cE f t s a == 0) (cV f t s a == hV f t s a) (cE f t s a == 6) (mayL f [a] && isNW f a) (hV f t s a == 0#64) (hV f t s a == lo) (hV f t s a == hi) = some (.bool true) := by
  obtain ⟨hf, _, ha⟩ := mayC_fit hm
  have hL : mayL f [a] = true := by
    unfold mayL
    simp only [List.all_cons, List.all_nil, Bool.and_true, hf, Bool.true_and]
    unfold mayC at hm
    simp only [Bool.and_eq_true] at hm
    exact hm.2
  have e1 : hE f t s a = 0 := by unfold hE; rw [hm]; rfl
  have e2 : hV f t s a = hldV f t s a := by unfold hV; rw [hm]; rfl
  rw [e1, e2, hL, Bool.true_and]
  cases hk : fitV f t s a
  · have c0 : cE f t s a = 6 := by unfold cE; rw [hm, hk]; rfl
    rw [c0]
    cases hn : isNW f a
    · have hv : hldV f t s a = numV t (ng (fmtW f) a.toNat) (BitVec.ofNat 64 (bnd t s (ng (fmtW f) a.toNat))) := by unfold hldV; rw [hn, hk]; rfl
      rw [hv]
      cases ng (fmtW f) a.toNat
      · rw [hhi]
        generalize (hi == 0#64) = z
        generalize (hi == lo) = l
        generalize (cV f t s a == hi) = x
        rw [show (hi == hi) = true from beq_self_eq_true hi]
        cases z <;> cases l <;> cases x <;> rfl
      · rw [hlo]
        generalize (lo == 0#64) = z
        generalize (lo == hi) = l
        generalize (cV f t s a == lo) = x
        rw [show (lo == lo) = true from beq_self_eq_true lo]
        cases z <;> cases l <;> cases x <;> rfl
    · have hv : hldV f t s a = 0#64 := by unfold hldV; rw [hn]; rfl
      rw [hv, show (0#64 == 0#64) = true from rfl]
      generalize (0#64 == lo) = l
      generalize (0#64 == hi) = h
      generalize (cV f t s a == 0#64) = x
      cases l <;> cases h <;> cases x <;> rfl
  · have c0 : cE f t s a = 0 := by unfold cE; rw [hm, hk]; rfl
    have c1 : cV f t s a = hldV f t s a := by unfold cV; rw [hm, hk]; rfl
    rw [c0, c1, show (hldV f t s a == hldV f t s a) = true from beq_self_eq_true _]
    rfl
theorem held8 : Snd 8 (trueS fun | [.u8 _, .u8 _, .bool _, .u64 _] => true | _ => false) := by
  refine Sound.guard (execFn_sound (ann := fun _ => []) (TableOK.cons t_wid (TableOK.cons t_lof (TableOK.cons g17 (TableOK.cons g19 (TableOK.cons g21 (TableOK.cons t_works TableOK.nil)))))) mixed Try.func8 (by kernel_rfl) 50) fun ds d h => ?_
  simp only [Option.some.injEq, Prod.mk.injEq] at h
  obtain ⟨h, rfl⟩ := h
  split at h
  · rename_i n m s a
    have hw := okC_wid n
    have ht := okC_wid m
    have hm : mayC (widF n) (widF m) (lofF (widF n) a) = true := by
      unfold mayC
      rw [hw, ht, ← fit_C hw]
      refine decide_eq_true ?_
      unfold lofF
      exact and_le _ _
    cases s
    · refine (nf8f widF lofF _ _ _ _ _ _ n m a).trans (hldL_ok hm ?_ ?_)
      · rcases okC_cases ht with e | e <;> rw [e] <;> decide
      · rcases okC_cases ht with e | e <;> rw [e] <;> decide
    · refine (nf8t widF lofF _ _ _ _ _ _ n m a).trans (hldL_ok hm ?_ ?_)
      · rcases okC_cases ht with e | e <;> rw [e] <;> decide
      · rcases okC_cases ht with e | e <;> rw [e] <;> decide
  · cases h

end Go.L05
namespace Go.Proofs.Ytaabolgkoegohaa.convsHeld
open Go Go.L05 Go.Ev Go.RowKit Go.ChangeShapes Go.WideShapes Go.ChangeAt
set_option maxRecDepth 100000 in
theorem lifted (os : Os) (started : os.Started) (H : Type) (enc : TypeId × Value → H) :
    ReturnsInHanded {} Try.checked os 8 .any (Rows.convsHeldSpec.pre6 enc Try.prog Try.f8 Rows.convsHeldRow.domain false) (Rows.convsHeldSpec.post enc Try.prog Try.f8 false true false false) := by
  refine returnsInHanded_of_change (C := Try.checked) own started (by kernel_rfl) Try.func8
    (ChangeSpec.witness6 (enc := enc) (C := Try.checked) false ⟨#[], #[.int .u8 0, .int .u8 0, .bool false, .int .u64 0], []⟩ 8 (by kernel_rfl) (by kernel_rfl) (by kernel_rfl) (by kernel_rfl)) ?_
  intro W base args ds gs before hval0 hW _ _
  have hval : ∀ (j : Nat) t v, Try.f8.params[j]? = some t → args[j]? = some v → Value.okWide Try.prog W .any base t v := hval0
  have hW' := hW
  obtain ⟨p, q, hA0, hV, rfl, hfz, hnd⟩ := hW
  have hA : DataW.TrodAll enc Try.prog W 0 (fun _ => true) true Try.f8.params.toList args.toList ds p := hA0
  rw [Try.params8] at hA hval
  obtain ⟨v0, vs0, d0, ds0, p0, q0, hargs, rfl, rfl, h0, r0⟩ := trodAll_cons hA
  obtain ⟨v1, vs1, d1, ds1, p1, q1, rfl, rfl, rfl, h1, r1⟩ := trodAll_cons r0
  obtain ⟨v2, vs2, d2, ds2, p2, q2, rfl, rfl, rfl, h2, r2⟩ := trodAll_cons r1
  obtain ⟨v3, vs3, d3, ds3, p3, q3, rfl, rfl, rfl, h3, r3⟩ := trodAll_cons r2
  obtain ⟨rfl, rfl, rfl⟩ := trodAll_nil r3
  obtain rfl : args = #[v0, v1, v2, v3] := by cases args; simp_all
  obtain ⟨x0, l0⟩ := arg_u8 (own := none) Try.underlying5 (hval 0 5 v0 rfl rfl) h0
  obtain ⟨x1, l1⟩ := arg_u8 (own := none) Try.underlying5 (hval 1 5 v1 rfl rfl) h1
  obtain ⟨x2, l2⟩ := arg_bool (own := none) Try.underlying4 (hval 2 4 v2 rfl rfl) h2
  obtain ⟨x3, l3⟩ := arg_u64 (own := none) Try.underlying22 (hval 3 22 v3 rfl rfl) h3
  refine (call_true held8 (ds := [.u8 x0, .u8 x1, .bool x2, .u64 x3]) rfl (by simp only [lie]; exact ⟨_, _, rfl, l0, _, _, rfl, l1, _, _, rfl, l2, _, _, rfl, l3, rfl⟩) (by kernel_rfl)).mono fun e W' ⟨he, hb⟩ => ?_
  subst he
  exact ⟨_, rfl, post_law hW' hb laidOut (by kernel_rfl) rfl (by kernel_rfl) Try.underlying4 rfl⟩
end Go.Proofs.Ytaabolgkoegohaa.convsHeld
namespace Go.Proofs.Ytaabolgkoegohaa
open Go

theorem convsHeld_holds : Rows.ConvsHeldSaid :=
  OpenClaim.holds_of_wide 8 Try.f8 rfl rfl rfl rfl rfl rfl rfl ⟨rfl, rfl, rfl, rfl, rfl⟩ rfl rfl rfl rfl rfl (by kernel_rfl) Try.func8 (by kernel_rfl)
    (of_decide_eq_true (by kernel_rfl)) (by unfold Func.isWrapper; first | (rw [if_pos (by decide +kernel)]; kernel_rfl) | (rw [if_neg (by decide +kernel)]; exact ⟨rfl, rfl⟩))
    (fun os started H enc _ => convsHeld.lifted os started H enc)
#print axioms convsHeld_holds
end Go.Proofs.Ytaabolgkoegohaa

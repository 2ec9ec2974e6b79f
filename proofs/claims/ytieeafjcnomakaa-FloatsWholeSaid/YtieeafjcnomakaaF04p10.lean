/-
  PROVED HERE: FloatsWhole, for every input: what is rounded to a whole number is rounded so again, upward, downward, to 0 and to the nearest; it is the one above or the one below. No conditions beyond the row's own.
-/
import Derived.Test.YtieeafjcnomakaaF04w
import Derived.Test.YtieeafjcnomakaaF04r
import Derived.Test.YtieeafjcnomakaaF04y
set_option linter.unusedSimpArgs false
set_option linter.unusedVariables false
namespace Go.L04
open Go.Ev Go.Proofs Go.RowKit Go.Wh Go.Fl

def gT (g : Bool) (x : Option D) : Option D := if g = true then x else none
def FA : Option D := some (.bool false)
def TR : Option D := some (.bool true)
abbrev CO := BitVec 8 → Int → BitVec 64 → Bool
abbrev VO := BitVec 8 → Int → BitVec 64 → BitVec 64
def stT (C : CO) (V : VO) (w : Int) (x : BitVec 64) (next : Option D) : Option D := gT (C 13#8 w x) (if (!(V 13#8 w x == x)) = false then gT (C 14#8 w x) (if (!(V 14#8 w x == x)) = false then gT (C 15#8 w x) (if (!(V 15#8 w x == x)) = false then gT (C 16#8 w x) (if (!(V 16#8 w x == x)) = true then FA else next) else FA) else FA) else FA)
def nrT (TH : CV) (w : Int) (up dn nr : BitVec 64) : Option D := if TH 17#8 w nr up = false then (if TH 17#8 w nr dn = true then TR else FA) else TR
def frT (TH : CV) (w : Int) (a up dn tr nr : BitVec 64) : Option D := if TH 21#8 w dn a = true then (if TH 22#8 w up a = true then (if TH 17#8 w tr up = false then (if TH 17#8 w tr dn = true then nrT TH w up dn nr else FA) else nrT TH w up dn nr) else FA) else FA
def enT (TH : CV) (N : Int → BitVec 64 → Bool) (w : Int) (a up dn tr nr : BitVec 64) : Option D := if N w a = true then (if N w up = true then (if N w dn = true then (if N w tr = true then (if N w nr = true then TR else FA) else FA) else FA) else FA) else frT TH w a up dn tr nr
def whT (C : CO) (V : VO) (TH : CV) (N : Int → BitVec 64 → Bool) (w : Int) (a : BitVec 64) : Option D :=
  gT (C 13#8 w a) (gT (C 14#8 w a) (gT (C 15#8 w a) (gT (C 16#8 w a) (stT C V w (V 13#8 w a) (stT C V w (V 14#8 w a) (stT C V w (V 15#8 w a) (stT C V w (V 16#8 w a) (enT TH N w a (V 13#8 w a) (V 14#8 w a) (V 15#8 w a) (V 16#8 w a)))))))))
def ann10 : Nat → List Nat := fun | 6 => [1, 5, 6, 7, 8, 9, 34, 35] | _ => []
noncomputable abbrev lSame (TH : CV) : Ev.Spec := ex [(22, thBG TH)] (fun _ => []) Try.f28
theorem s_same : Snd 28 (lSame fthV) := execFn_sound (ann := fun _ => []) (TableOK.cons l_than TableOK.nil) mixed Try.func28 (by kernel_rfl) 50
theorem nf10 (W : BitVec 8 → Int) (O : Int → BitVec 64 → BitVec 64) (C : CO) (V : VO) (TH : CV) (N : Int → BitVec 64 → Bool) (n : BitVec 8) (a : BitVec 64) : ex [(20, widG W), (21, lofG O), (27, onBG C V), (24, noBG N), (22, thBG TH), (28, lSame TH), (15, worksS)] ann10 Try.f10 [.u8 n, .u64 a] some =
  whT C V TH N (W n) (O (W n) a) := by kernel_rfl
theorem stT_ok {w : Int} {a : BitVec 64} (ha : inF w a = true) (o : BitVec 8) (next : Option D) : stT inO inV w (inV o w a) next = next := by
  have hi : inF w (inV o w a) = true := rnW_in _ ha
  have h : ∀ p, inV p w (inV o w a) = inV o w a := fun p => rnW_idem _ _ ha
  have g : ∀ p, (p == 13#8 || p == 14#8 || p == 15#8 || p == 16#8) = true → inO p w (inV o w a) = true := fun p hp => by unfold inO; rw [hp, hi]; rfl
  unfold stT gT
  rw [g 13#8 rfl, g 14#8 rfl, g 15#8 rfl, g 16#8 rfl, h, h, h, h]
  have e : (inV o w a == inV o w a) = true := beq_self_eq_true _
  rw [e]; rfl
theorem th_eq {w : Int} {x y : BitVec 64} (hx : inF w x = true) (nx : noW w x = false) (h : x = y) : fthV 17#8 w x y = true := by
  subst h
  unfold fthV
  rw [ma_in hx hx, Bool.true_and]
  show eqW w x x = true
  unfold eqW
  rw [nx, beq_self_eq_true]; rfl
theorem th_le {w : Int} {x y : BitVec 64} (hx : inF w x = true) (hy : inF w y = true) (nx : noW w x = false) (ny : noW w y = false) (h : keW w x ≤ keW w y) : fthV 21#8 w x y = true ∧ fthV 22#8 w y x = true := by
  have e : (leW w x y || eqW w x y) = true ∧ (leW w x y || eqW w y x) = true := by
    unfold leW eqW
    rw [nx, ny]
    rcases Int.lt_or_eq_of_le h with g | g
    · rw [decide_eq_true g]; exact ⟨rfl, rfl⟩
    · rw [g, beq_self_eq_true]
      cases decide (keW w y < keW w y) <;> exact ⟨rfl, rfl⟩
  unfold fthV
  rw [ma_in hx hy, ma_in hy hx, Bool.true_and, Bool.true_and]
  exact ⟨e.1, e.2⟩
theorem whT_ok {w : Int} {a : BitVec 64} (ha : inF w a = true) : whT inO inV fthV nonV w a = some (.bool true) := by
  have g : ∀ p, (p == 13#8 || p == 14#8 || p == 15#8 || p == 16#8) = true → inO p w a = true := fun p hp => by unfold inO; rw [hp, ha]; rfl
  have hi : ∀ p, inF w (inV p w a) = true := fun p => rnW_in _ ha
  have hno : ∀ p, noW w (inV p w a) = noW w a := fun p => rnW_no _ ha
  have nV : ∀ z, inF w z = true → nonV w z = noW w z := fun z hz => by unfold nonV; rw [hz, Bool.true_and]
  unfold whT
  rw [stT_ok ha, stT_ok ha, stT_ok ha, stT_ok ha, g 13#8 rfl, g 14#8 rfl, g 15#8 rfl, g 16#8 rfl]
  show enT fthV nonV w a (inV 13#8 w a) (inV 14#8 w a) (inV 15#8 w a) (inV 16#8 w a) = _
  unfold enT
  rw [nV _ ha, nV _ (hi _), nV _ (hi _), nV _ (hi _), nV _ (hi _), hno, hno, hno, hno]
  cases hn : noW w a
  · have e : ∀ way, (rnW way w a).toNat = rnN way w a.toNat := fun way => (rnW_num way hn).1
    have k : ∀ way, keW w (rnW way w a) = key (fmW w) (rnN way w a.toNat) := fun way => by unfold keW; rw [e]
    obtain ⟨kd, ku⟩ := rnN_key_low (w := w) (a := a.toNat) hn
    have kd' : keW w (inV 14#8 w a) ≤ keW w a := by show keW w (rnW .down w a) ≤ _; rw [k]; exact kd
    have ku' : keW w a ≤ keW w (inV 13#8 w a) := by show _ ≤ keW w (rnW .up w a); rw [k]; exact ku
    have n1 : ∀ p, noW w (inV p w a) = false := fun p => (hno p).trans hn
    have t1 := (th_le (hi 14#8) ha (n1 _) hn kd').1
    have t2 := (th_le ha (hi 13#8) hn (n1 _) ku').2
    have z3 : inV 15#8 w a = inV 13#8 w a ∨ inV 15#8 w a = inV 14#8 w a := by
      rcases rnN_zero (w := w) a.toNat with h | h
      · left; apply BitVec.eq_of_toNat_eq; show (rnW .zero w a).toNat = (rnW .up w a).toNat; rw [e, e]; exact h
      · right; apply BitVec.eq_of_toNat_eq; show (rnW .zero w a).toNat = (rnW .down w a).toNat; rw [e, e]; exact h
    have z4 : inV 16#8 w a = inV 13#8 w a ∨ inV 16#8 w a = inV 14#8 w a := by
      rcases rnN_even (w := w) a.toNat with h | h
      · left; apply BitVec.eq_of_toNat_eq; show (rnW .even w a).toNat = (rnW .up w a).toNat; rw [e, e]; exact h
      · right; apply BitVec.eq_of_toNat_eq; show (rnW .even w a).toNat = (rnW .down w a).toNat; rw [e, e]; exact h
    have hnr : nrT fthV w (inV 13#8 w a) (inV 14#8 w a) (inV 16#8 w a) = some (.bool true) := by
      unfold nrT
      rcases z4 with h | h
      · rw [th_eq (hi _) (n1 _) h]; rfl
      · rw [th_eq (hi _) (n1 _) h]
        cases fthV 17#8 w (inV 16#8 w a) (inV 13#8 w a) <;> rfl
    show frT fthV w a _ _ _ _ = _
    unfold frT
    rw [t1, t2, hnr]
    rcases z3 with h | h
    · rw [th_eq (hi _) (n1 _) h]; rfl
    · rw [th_eq (hi _) (n1 _) h]
      cases fthV 17#8 w (inV 15#8 w a) (inV 13#8 w a) <;> rfl
  · rfl
theorem floatsWhole_s : Snd 10 (trueS fun | [.u8 _, .u64 _] => true | _ => false) := by
  refine Sound.guard (execFn_sound (ann := ann10) (TableOK.cons t_wid (TableOK.cons t_lof (TableOK.cons l_int (TableOK.cons l_none (TableOK.cons l_than (TableOK.cons s_same (TableOK.cons s_works TableOK.nil))))))) mixed Try.func10 (by kernel_rfl) 50) fun ds d h => ?_
  simp only [Option.some.injEq, Prod.mk.injEq] at h
  obtain ⟨h, rfl⟩ := h
  split at h
  · rename_i n a
    exact (nf10 _ _ _ _ _ _ n a).trans (whT_ok (in_wl n a))
  · cases h

end Go.L04
namespace Go.Proofs.Ytieeafjcnomakaa.floatsWhole
open Go Go.L04 Go.Ev Go.RowKit Go.ChangeShapes Go.WideShapes Go.ChangeAt
set_option maxRecDepth 100000 in
theorem lifted (os : Os) (started : os.Started) (H : Type) (enc : TypeId × Value → H) :
    ReturnsInHanded {} Try.checked os 10 .any (Rows.floatsWholeSpec.pre6 enc Try.prog Try.f10 Rows.floatsWholeRow.domain false) (Rows.floatsWholeSpec.post enc Try.prog Try.f10 false true false false) := by
  refine returnsInHanded_of_change (C := Try.checked) own started (by kernel_rfl) Try.func10
    (ChangeSpec.witness6 (enc := enc) (C := Try.checked) false ⟨#[], #[.int .u8 0, .int .u64 0], []⟩ 8 (by kernel_rfl) (by kernel_rfl) (by kernel_rfl) (by kernel_rfl)) ?_
  intro W base args ds gs before hval0 hW _ _
  have hval : ∀ (j : Nat) t v, Try.f10.params[j]? = some t → args[j]? = some v → Value.okWide Try.prog W .any base t v := hval0
  have hW' := hW
  obtain ⟨p, q, hA0, hV, rfl, hfz, hnd⟩ := hW
  have hA : DataW.TrodAll enc Try.prog W 0 (fun _ => true) true Try.f10.params.toList args.toList ds p := hA0
  rw [Try.params10] at hA hval
  obtain ⟨v0, vs0, d0, ds0, p0, q0, hargs, rfl, rfl, h0, r0⟩ := trodAll_cons hA
  obtain ⟨v1, vs1, d1, ds1, p1, q1, rfl, rfl, rfl, h1, r1⟩ := trodAll_cons r0
  obtain ⟨rfl, rfl, rfl⟩ := trodAll_nil r1
  obtain rfl : args = #[v0, v1] := by cases args; simp_all
  obtain ⟨x0, l0⟩ := arg_u8 (own := none) Try.underlying5 (hval 0 5 v0 rfl rfl) h0
  obtain ⟨x1, l1⟩ := arg_u64 (own := none) Try.underlying23 (hval 1 23 v1 rfl rfl) h1
  refine (call_true floatsWhole_s (ds := [.u8 x0, .u64 x1]) rfl (by simp only [lie]; exact ⟨_, _, rfl, l0, _, _, rfl, l1, rfl⟩) (by kernel_rfl)).mono fun e W' ⟨he, hb⟩ => ?_
  subst he
  exact ⟨_, rfl, post_law hW' hb laidOut (by kernel_rfl) rfl (by kernel_rfl) Try.underlying4 rfl⟩
end Go.Proofs.Ytieeafjcnomakaa.floatsWhole
namespace Go.Proofs.Ytieeafjcnomakaa
open Go

theorem floatsWhole_holds : Rows.FloatsWholeSaid :=
  OpenClaim.holds_of_wide 10 Try.f10 rfl rfl rfl rfl rfl rfl rfl ⟨rfl, rfl, rfl, rfl, rfl⟩ rfl rfl rfl rfl rfl (by kernel_rfl) Try.func10 (by kernel_rfl)
    (of_decide_eq_true (by kernel_rfl)) (by unfold Func.isWrapper; first | (rw [if_pos (by decide +kernel)]; kernel_rfl) | (rw [if_neg (by decide +kernel)]; exact ⟨rfl, rfl⟩))
    (fun os started H enc _ => floatsWhole.lifted os started H enc)
#print axioms floatsWhole_holds
end Go.Proofs.Ytieeafjcnomakaa

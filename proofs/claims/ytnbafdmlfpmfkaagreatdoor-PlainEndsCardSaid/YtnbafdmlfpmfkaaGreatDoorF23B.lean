/-
  Part of the proof; what its functions and lemmas say stands in the text.
-/
import Derived.Test.YtnbafdmlfpmfkaaGreatDoorF23A
import Derived.Test.YtnbafdmlfpmfkaaGreatDoorFlC
import Derived.Test.YtnbafdmlfpmfkaaGreatDoorFlD
set_option linter.unusedSimpArgs false
set_option linter.unusedVariables false
namespace Go.L23F
open Go.Ev Go.Proofs Go.RowKit Go.Wh Go.Fl
open Go.L23
open Go.L23
def sgV (o : BitVec 8) (w : Int) (a : BitVec 64) : BitVec 64 := if (o == 10#8) = true then a &&& ~~~(sgW w) else a ^^^ sgW w
def sgO (o : BitVec 8) (w : Int) (a : BitVec 64) : Bool := (o == 10#8 || o == 11#8) && inF w a
noncomputable def oneS : Ev.Spec := guarded fun | [.u8 o, .i .i64 w, .u64 a] => some (sgO o w a, .tup [.u64 (sgV o w a), .i .i64 0]) | _ => none
def onT (m c n : Bool) (x : BitVec 64) : Option D := if (!m) = true then some (.tup [.u64 0#64, .i .i64 2]) else if c = true then if n = true then okT x else okT x else none
theorem nf_one10 (M : Int → List (BitVec 64) → Bool) (C N : Int → BitVec 64 → Bool) (X : Int → BitVec 64 → Nat) (S : Int → BitVec 64) (w : Int) (a : BitVec 64) : ex [(210, fmayG M), (211, ofG C N X), (212, sigG S)] (fun _ => []) Tryz.f128 [.u8 10#8, .i .i64 w, .u64 a] some = onT (M w [a]) (C w a) (N w a) (a &&& ~~~(S w)) := by kernel_rfl
theorem nf_one11 (M : Int → List (BitVec 64) → Bool) (C N : Int → BitVec 64 → Bool) (X : Int → BitVec 64 → Nat) (S : Int → BitVec 64) (w : Int) (a : BitVec 64) : ex [(210, fmayG M), (211, ofG C N X), (212, sigG S)] (fun _ => []) Tryz.f128 [.u8 11#8, .i .i64 w, .u64 a] some = onT (M w [a]) (C w a) (N w a) (a ^^^ S w) := by kernel_rfl
theorem onT_ok {w : Int} {a x : BitVec 64} (h : inF w a = true) : onT (maW w [a]) (inF w a) (noW w a) x = okT x := by
 rw [maW1, h]
 unfold onT
 cases noW w a <;> rfl
theorem f_sgn : Snd 128 oneS := by
 refine Sound.guard (execFn_sound (ann := fun _ => []) (TableOK.cons f_may (TableOK.cons f_of (TableOK.cons f_sig TableOK.nil))) mixed Tryz.func128 (by kernel_rfl) 50) fun ds d h => ?_
 split at h
 ·rename_i o w a
  simp only [Option.some.injEq, Prod.mk.injEq, sgO, Bool.and_eq_true, Bool.or_eq_true, beq_iff_eq] at h
  obtain ⟨⟨ho, hi⟩, rfl⟩ := h
  have hw := in_ok hi
  rcases ho with rfl | rfl
  ·refine (nf_one10 _ _ _ _ _ w a).trans ((onT_ok hi).trans ?_)
   rw [sig_W hw]; rfl
  ·refine (nf_one11 _ _ _ _ _ w a).trans ((onT_ok hi).trans ?_)
   rw [sig_W hw]; rfl
 ·cases h
noncomputable def onG (C : BitVec 8 → Int → BitVec 64 → Bool) (V : BitVec 8 → Int → BitVec 64 → BitVec 64) : Ev.Spec := guarded fun | [.u8 o, .i .i64 w, .u64 a] => some (C o w a, .tup [.u64 (V o w a), .i .i64 0]) | _ => none
end Go.L23F
namespace Go.L23F
open Go.Ev Go.Proofs Go.RowKit Go.Wh Go.Fl
open Go.L23
open Go.L23
noncomputable def inG (C : Nat → Bool) (V : Nat → Nat) : Ev.Spec := guarded fun | [.f .f64 x] => some (C x, .f .f64 (V x)) | [.nan .f64] => some (true, .nan .f64) | _ => none
def isNum (x : Nat) : Bool := !isN Ieee.double x
theorem x_Ceil : Snd 276 (inG isNum (intV .up)) := int_ok (name := "math.archCeil") (way := .up) ⟨⟨Tryz.f276, Tryz.func276, by kernel_rfl, by kernel_rfl, by kernel_rfl, by kernel_rfl⟩⟩
noncomputable abbrev lCeil (C : Nat → Bool) (V : Nat → Nat) : Ev.Spec := ex [(276, inG C V)] (fun _ => []) Tryz.f215
theorem s_Ceil : Snd 215 (lCeil isNum (intV .up)) := execFn_sound (ann := fun _ => []) (TableOK.cons x_Ceil TableOK.nil) mixed Tryz.func215 (by kernel_rfl) 50
theorem x_Floor : Snd 278 (inG isNum (intV .down)) := int_ok (name := "math.archFloor") (way := .down) ⟨⟨Tryz.f278, Tryz.func278, by kernel_rfl, by kernel_rfl, by kernel_rfl, by kernel_rfl⟩⟩
noncomputable abbrev lFloor (C : Nat → Bool) (V : Nat → Nat) : Ev.Spec := ex [(278, inG C V)] (fun _ => []) Tryz.f216
theorem s_Floor : Snd 216 (lFloor isNum (intV .down)) := execFn_sound (ann := fun _ => []) (TableOK.cons x_Floor TableOK.nil) mixed Tryz.func216 (by kernel_rfl) 50
theorem x_Trunc : Snd 280 (inG isNum (intV .zero)) := int_ok (name := "math.archTrunc") (way := .zero) ⟨⟨Tryz.f280, Tryz.func280, by kernel_rfl, by kernel_rfl, by kernel_rfl, by kernel_rfl⟩⟩
noncomputable abbrev lTrunc (C : Nat → Bool) (V : Nat → Nat) : Ev.Spec := ex [(280, inG C V)] (fun _ => []) Tryz.f217
theorem s_Trunc : Snd 217 (lTrunc isNum (intV .zero)) := execFn_sound (ann := fun _ => []) (TableOK.cons x_Trunc TableOK.nil) mixed Tryz.func217 (by kernel_rfl) 50
theorem x_rte : Snd 218 (inG isNum (intV .even)) := int_ok (name := "math.RoundToEven") (way := .even) ⟨⟨Tryz.f218, Tryz.func218, by kernel_rfl, by kernel_rfl, by kernel_rfl, by kernel_rfl⟩⟩
def inT (BC : Int → Nat → Bool) (BV : Int → Nat → BitVec 64) (m c n : Bool) (w : Int) (ic : Bool) (v : Nat) : Option D := if (!m) = true then some (.tup [.u64 0#64, .i .i64 2]) else if c = true then if n = true then (if wOK w = true then okT (naW w) else none) else (if ic = true then (if (wOK w && BC w v) = true then okT (BV w v) else none) else none) else none
theorem nf_one13 (M : Int → List (BitVec 64) → Bool) (C N : Int → BitVec 64 → Bool) (X : Int → BitVec 64 → Nat) (BC : Int → Nat → Bool) (BV : Int → Nat → BitVec 64) (IC : Nat → Bool) (V : Nat → Nat) (w : Int) (a : BitVec 64) : ex [(210, fmayG M), (211, ofG C N X), (213, bitsG BC BV), (215, lCeil IC V)] (fun _ => []) Tryz.f128 [.u8 13#8, .i .i64 w, .u64 a] some = inT BC BV (M w [a]) (C w a) (N w a) w (IC (X w a)) (V (X w a)) := by kernel_rfl
theorem nf_one14 (M : Int → List (BitVec 64) → Bool) (C N : Int → BitVec 64 → Bool) (X : Int → BitVec 64 → Nat) (BC : Int → Nat → Bool) (BV : Int → Nat → BitVec 64) (IC : Nat → Bool) (V : Nat → Nat) (w : Int) (a : BitVec 64) : ex [(210, fmayG M), (211, ofG C N X), (213, bitsG BC BV), (216, lFloor IC V)] (fun _ => []) Tryz.f128 [.u8 14#8, .i .i64 w, .u64 a] some = inT BC BV (M w [a]) (C w a) (N w a) w (IC (X w a)) (V (X w a)) := by kernel_rfl
theorem nf_one15 (M : Int → List (BitVec 64) → Bool) (C N : Int → BitVec 64 → Bool) (X : Int → BitVec 64 → Nat) (BC : Int → Nat → Bool) (BV : Int → Nat → BitVec 64) (IC : Nat → Bool) (V : Nat → Nat) (w : Int) (a : BitVec 64) : ex [(210, fmayG M), (211, ofG C N X), (213, bitsG BC BV), (217, lTrunc IC V)] (fun _ => []) Tryz.f128 [.u8 15#8, .i .i64 w, .u64 a] some = inT BC BV (M w [a]) (C w a) (N w a) w (IC (X w a)) (V (X w a)) := by kernel_rfl
theorem nf_one16 (M : Int → List (BitVec 64) → Bool) (C N : Int → BitVec 64 → Bool) (X : Int → BitVec 64 → Nat) (BC : Int → Nat → Bool) (BV : Int → Nat → BitVec 64) (IC : Nat → Bool) (V : Nat → Nat) (w : Int) (a : BitVec 64) : ex [(210, fmayG M), (211, ofG C N X), (213, bitsG BC BV), (218, inG IC V)] (fun _ => []) Tryz.f128 [.u8 16#8, .i .i64 w, .u64 a] some = inT BC BV (M w [a]) (C w a) (N w a) w (IC (X w a)) (V (X w a)) := by kernel_rfl
theorem inT_ok {w : Int} {a : BitVec 64} (way : Ieee.Toward) (h : inF w a = true) : inT bsC bsV (maW w [a]) (inF w a) (noW w a) w (isNum (wdW w a)) (intV way (wdW w a)) = okT (rnW way w a) := by
 have hw := in_ok h
 rw [maW1, h]
 unfold inT
 cases hn : noW w a
 ·obtain ⟨h1, h2⟩ := bs_int way h hn
  have h3 : isNum (wdW w a) = true := by unfold isNum; rw [wd_notN h hn]; rfl
  rw [h1, h2, h3, hw]; rfl
 ·rw [hw]
  unfold rnW
  rw [hn]; rfl
def wayO (o : BitVec 8) : Ieee.Toward := if (o == 13#8) = true then .up else if (o == 14#8) = true then .down else if (o == 15#8) = true then .zero else .even
def inO (o : BitVec 8) (w : Int) (a : BitVec 64) : Bool := (o == 13#8 || o == 14#8 || o == 15#8 || o == 16#8) && inF w a
def inV (o : BitVec 8) (w : Int) (a : BitVec 64) : BitVec 64 := rnW (wayO o) w a
theorem f_int : Snd 128 (onG inO inV) := by
 refine Sound.of_ptG fun ds d hd => ?_
 split at hd
 ·rename_i o w a
  rw [Option.some.injEq, Prod.mk.injEq] at hd
  obtain ⟨hc, rfl⟩ := hd
  simp only [inO, Bool.and_eq_true, Bool.or_eq_true, beq_iff_eq] at hc
  obtain ⟨ho, hi⟩ := hc
  rcases ho with ((rfl | rfl) | rfl) | rfl
  ·exact (execFn_sound (P := Tryz.prog) (G := G0) (ann := fun _ => []) (TableOK.cons f_may (TableOK.cons f_of (TableOK.cons f_bits (TableOK.cons s_Ceil TableOK.nil)))) mixed Tryz.func128 (by kernel_rfl) 50).pt ((nf_one13 _ _ _ _ _ _ _ _ w a).trans (inT_ok .up hi))
  ·exact (execFn_sound (P := Tryz.prog) (G := G0) (ann := fun _ => []) (TableOK.cons f_may (TableOK.cons f_of (TableOK.cons f_bits (TableOK.cons s_Floor TableOK.nil)))) mixed Tryz.func128 (by kernel_rfl) 50).pt ((nf_one14 _ _ _ _ _ _ _ _ w a).trans (inT_ok .down hi))
  ·exact (execFn_sound (P := Tryz.prog) (G := G0) (ann := fun _ => []) (TableOK.cons f_may (TableOK.cons f_of (TableOK.cons f_bits (TableOK.cons s_Trunc TableOK.nil)))) mixed Tryz.func128 (by kernel_rfl) 50).pt ((nf_one15 _ _ _ _ _ _ _ _ w a).trans (inT_ok .zero hi))
  ·exact (execFn_sound (P := Tryz.prog) (G := G0) (ann := fun _ => []) (TableOK.cons f_may (TableOK.cons f_of (TableOK.cons f_bits (TableOK.cons x_rte TableOK.nil)))) mixed Tryz.func128 (by kernel_rfl) 50).pt ((nf_one16 _ _ _ _ _ _ _ _ w a).trans (inT_ok .even hi))
 ·cases hd
end Go.L23F
namespace Go.L23F
open Go.Ev Go.Proofs Go.RowKit Go.Wh Go.Fl
open Go.L23
open Go.L23
noncomputable def sqG (Nn : Nat → Bool) (V : Nat → Nat) : Ev.Spec := gtwo fun
 | [.f .f64 x] => some (true, Nn x, .nan .f64, .f .f64 (V x))
 | [.nan .f64] => some (true, true, .nan .f64, .nan .f64)
 | _ => none
def sqN (x : Nat) : Bool := (Ieee.double.sqrt x).isNone
def sqR (x : Nat) : Nat := (Ieee.double.sqrt x).getD 0
theorem x_sqrt : Snd 275 (sqG sqN sqR) := root_ok ⟨⟨Tryz.f275, Tryz.func275, by kernel_rfl, by kernel_rfl, by kernel_rfl, by kernel_rfl⟩⟩
noncomputable abbrev lSqrt (Nn : Nat → Bool) (V : Nat → Nat) : Ev.Spec := ex [(275, sqG Nn V)] (fun _ => []) Tryz.f214
theorem s_Sqrt : Snd 214 (lSqrt sqN sqR) := execFn_sound (ann := fun _ => []) (TableOK.cons x_sqrt TableOK.nil) mixed Tryz.func214 (by kernel_rfl) 50
def E2 : Option D := some (.tup [.u64 0#64, .i .i64 2])
def naK (w : Int) : Option D := if wOK w = true then okT (naW w) else none
def sqT (BC : Int → Nat → Bool) (BV : Int → Nat → BitVec 64) (m c n : Bool) (w : Int) (nn : Bool) (v : Nat) : Option D := if (!m) = true then E2 else if c = true then (if n = true then naK w else (if nn = true then naK w else (if (wOK w && BC w v) = true then okT (BV w v) else none))) else none
theorem nf_one12 (M : Int → List (BitVec 64) → Bool) (C N : Int → BitVec 64 → Bool) (X : Int → BitVec 64 → Nat) (BC : Int → Nat → Bool) (BV : Int → Nat → BitVec 64) (Nn : Nat → Bool) (V : Nat → Nat) (w : Int) (a : BitVec 64) : ex [(210, fmayG M), (211, ofG C N X), (213, bitsG BC BV), (214, lSqrt Nn V)] (fun _ => []) Tryz.f128 [.u8 12#8, .i .i64 w, .u64 a] some = sqT BC BV (M w [a]) (C w a) (N w a) w (Nn (X w a)) (V (X w a)) := by kernel_rfl
def chT (o : BitVec 8) (x y : BitVec 64) : Option D := if (o == 10#8) = true then okT x else if (o == 11#8) = true then okT y else if (o == 12#8) = true then none else if (o == 13#8) = true then none else if (o == 14#8) = true then none else if (o == 15#8) = true then none else if (o == 16#8) = true then none else E2
theorem nf_oneR (M : Int → List (BitVec 64) → Bool) (C N : Int → BitVec 64 → Bool) (X : Int → BitVec 64 → Nat) (S : Int → BitVec 64) (o : BitVec 8) (w : Int) (a : BitVec 64) : ex [(210, fmayG M), (211, ofG C N X), (212, sigG S)] (fun _ => []) Tryz.f128 [.u8 o, .i .i64 w, .u64 a] some =
 if (!M w [a]) = true then E2 else if C w a = true then (if N w a = true then chT o (a &&& ~~~(S w)) (a ^^^ S w) else chT o (a &&& ~~~(S w)) (a ^^^ S w)) else none := by kernel_rfl
def sqW (w : Int) (a : BitVec 64) : BitVec 64 := if noW w a = true then naW w else if sqN (wdW w a) = true then naW w else bsV w (sqR (wdW w a))
theorem sq_bs {w : Int} {a : BitVec 64} (h : inF w a = true) (hn : noW w a = false) (hs : sqN (wdW w a) = false) : bsC w (sqR (wdW w a)) = true := by
 have hr : ∃ r, Ieee.double.sqrt (wdW w a) = some r ∧ sqR (wdW w a) = r := by
  unfold sqN at hs
  unfold sqR
  cases hq : Ieee.double.sqrt (wdW w a) with
  | none => rw [hq] at hs; cases hs
  | some r => exact ⟨r, rfl, rfl⟩
 obtain ⟨r, h1, h2⟩ := hr
 rw [h2]
 rcases inF_cases h with ⟨rfl, _⟩ | rfl
 ·exact sqrt_short (a := a.toNat) hn h1
 ·refine decide_eq_true ?_
  unfold Ieee.Format.sqrt at h1
  cases hd : (Ieee.double.read (wdW 64 a)).root (Ieee.double.fractionBits + 2) with
  | none => rw [hd] at h1; cases h1
  | some d =>
   rw [hd] at h1
   cases h1
   exact write_lt two_d d
def onV1 (o : BitVec 8) (w : Int) (a : BitVec 64) : BitVec 64 := if (o == 10#8) = true then a &&& ~~~(sgW w) else if (o == 11#8) = true then a ^^^ sgW w else if (o == 12#8) = true then sqW w a else if (o == 13#8 || o == 14#8 || o == 15#8 || o == 16#8) = true then rnW (wayO o) w a else 0#64
def onOp (o : BitVec 8) : Bool := o == 10#8 || o == 11#8 || o == 12#8 || o == 13#8 || o == 14#8 || o == 15#8 || o == 16#8
def onV (o : BitVec 8) (w : Int) (a : BitVec 64) : BitVec 64 := if inF w a = true then onV1 o w a else 0#64
def onE (o : BitVec 8) (w : Int) (a : BitVec 64) : Int := if (inF w a && onOp o) = true then 0 else 2
noncomputable def oneG (V : BitVec 8 → Int → BitVec 64 → BitVec 64) (E : BitVec 8 → Int → BitVec 64 → Int) : Ev.Spec := joined fun | [.u8 o, .i .i64 w, .u64 a] => some (.tup [.u64 (V o w a), .i .i64 (E o w a)]) | _ => none
theorem f_one : Snd 128 (oneG onV onE) := by
 refine Sound.of_pt fun ds d hd => ?_
 split at hd
 ·rename_i o w a
  cases hd
  have SR : Snd 128 (ex [(210, fmayG maW), (211, ofG inF noW wdW), (212, sigG sigV)] (fun _ => []) Tryz.f128) := execFn_sound (ann := fun _ => []) (TableOK.cons f_may (TableOK.cons f_of (TableOK.cons f_sig TableOK.nil))) mixed Tryz.func128 (by kernel_rfl) 50
  cases hi : inF w a
  ·refine SR.pt ((nf_oneR _ _ _ _ _ o w a).trans ?_)
   rw [maW1, hi]
   unfold onV onE
   rw [hi]; rfl
  ·by_cases h10 : o = 10#8
   ·subst h10
    have e : sgO 10#8 w a = true := by unfold sgO; rw [hi]; rfl
    have := f_sgn.pt (ds := [.u8 10#8, .i .i64 w, .u64 a]) (d := .tup [.u64 (sgV 10#8 w a), .i .i64 0]) (if_pos e)
    unfold onV onE; rw [hi]; exact this
   ·by_cases h11 : o = 11#8
    ·subst h11
     have e : sgO 11#8 w a = true := by unfold sgO; rw [hi]; rfl
     have := f_sgn.pt (ds := [.u8 11#8, .i .i64 w, .u64 a]) (d := .tup [.u64 (sgV 11#8 w a), .i .i64 0]) (if_pos e)
     unfold onV onE; rw [hi]; exact this
    ·by_cases h12 : o = 12#8
     ·subst h12
      refine (execFn_sound (P := Tryz.prog) (G := G0) (ann := fun _ => []) (TableOK.cons f_may (TableOK.cons f_of (TableOK.cons f_bits (TableOK.cons s_Sqrt TableOK.nil)))) mixed Tryz.func128 (by kernel_rfl) 50).pt ((nf_one12 _ _ _ _ _ _ _ _ w a).trans ?_)
      have hw := in_ok hi
      rw [maW1, hi]
      have ev : onV 12#8 w a = sqW w a := by unfold onV; rw [hi]; rfl
      have ee : onE 12#8 w a = 0 := by unfold onE; rw [hi]; rfl
      rw [ev, ee]
      unfold sqT sqW naK
      rw [hw]
      cases hn : noW w a
      ·cases hs : sqN (wdW w a)
       ·rw [sq_bs hi hn hs]; rfl
       ·rfl
      ·rfl
     ·by_cases hr : (o == 13#8 || o == 14#8 || o == 15#8 || o == 16#8) = true
      ·have e : inO o w a = true := by unfold inO; rw [hr, hi]; rfl
       have h := f_int.pt (ds := [.u8 o, .i .i64 w, .u64 a]) (d := .tup [.u64 (inV o w a), .i .i64 0]) (if_pos e)
       have e10 : (o == 10#8) = false := by simpa using h10
       have e11 : (o == 11#8) = false := by simpa using h11
       have e12 : (o == 12#8) = false := by simpa using h12
       have ev : onV o w a = inV o w a := by unfold onV onV1; rw [hi, e10, e11, e12, hr]; rfl
       have ee : onE o w a = 0 := by
        unfold onE onOp
        rw [hi, e10, e11, e12]
        simp only [Bool.or_eq_true] at hr
        rcases hr with ((h | h) | h) | h <;> rw [h] <;> simp
       rw [ev, ee]; exact h
      ·refine SR.pt ((nf_oneR _ _ _ _ _ o w a).trans ?_)
       have e10 : (o == 10#8) = false := by simpa using h10
       have e11 : (o == 11#8) = false := by simpa using h11
       have e12 : (o == 12#8) = false := by simpa using h12
       have hr' := Bool.eq_false_iff.2 hr
       simp only [Bool.or_eq_false_iff] at hr'
       obtain ⟨⟨⟨e13, e14⟩, e15⟩, e16⟩ := hr'
       have ev : onV o w a = 0#64 := by unfold onV onV1; rw [hi, e10, e11, e12, e13, e14, e15, e16]; rfl
       have ee : onE o w a = 2 := by unfold onE onOp; rw [hi, e10, e11, e12, e13, e14, e15, e16]; rfl
       rw [maW1, hi, ev, ee]
       unfold chT
       rw [e10, e11, e12, e13, e14, e15, e16]
       cases noW w a <;> rfl
 ·cases hd
end Go.L23F

/-
  Part of the proof; what its functions and lemmas say stands in the text.
-/
import Derived.Test.YtieeafjcnomakaaF04v
import Derived.Test.YtieeafjcnomakaaFlC
set_option linter.unusedSimpArgs false
set_option linter.unusedVariables false
/-!
Chapter 04: whole floats, by the program.
-/
namespace Go.L04
open Go.Ev Go.Proofs Go.RowKit Go.Wh Go.Fl

noncomputable def inG (C : Nat → Bool) (V : Nat → Nat) : Ev.Spec := guarded fun | [.f .f64 x] => some (C x, .f .f64 (V x)) | [.nan .f64] => some (true, .nan .f64) | _ => none
def isNum (x : Nat) : Bool := !isN Ieee.double x
theorem x_Ceil : Snd 70 (inG isNum (intV .up)) := int_ok (name := "math.archCeil") (way := .up) ⟨⟨Try.f70, Try.func70, by kernel_rfl, by kernel_rfl, by kernel_rfl, by kernel_rfl⟩⟩
noncomputable abbrev lCeil (C : Nat → Bool) (V : Nat → Nat) : Ev.Spec := ex [(70, inG C V)] (fun _ => []) Try.f48
theorem s_Ceil : Snd 48 (lCeil isNum (intV .up)) := execFn_sound (ann := fun _ => []) (TableOK.cons x_Ceil TableOK.nil) mixed Try.func48 (by kernel_rfl) 50
theorem x_Floor : Snd 72 (inG isNum (intV .down)) := int_ok (name := "math.archFloor") (way := .down) ⟨⟨Try.f72, Try.func72, by kernel_rfl, by kernel_rfl, by kernel_rfl, by kernel_rfl⟩⟩
noncomputable abbrev lFloor (C : Nat → Bool) (V : Nat → Nat) : Ev.Spec := ex [(72, inG C V)] (fun _ => []) Try.f49
theorem s_Floor : Snd 49 (lFloor isNum (intV .down)) := execFn_sound (ann := fun _ => []) (TableOK.cons x_Floor TableOK.nil) mixed Try.func49 (by kernel_rfl) 50
theorem x_Trunc : Snd 74 (inG isNum (intV .zero)) := int_ok (name := "math.archTrunc") (way := .zero) ⟨⟨Try.f74, Try.func74, by kernel_rfl, by kernel_rfl, by kernel_rfl, by kernel_rfl⟩⟩
noncomputable abbrev lTrunc (C : Nat → Bool) (V : Nat → Nat) : Ev.Spec := ex [(74, inG C V)] (fun _ => []) Try.f50
theorem s_Trunc : Snd 50 (lTrunc isNum (intV .zero)) := execFn_sound (ann := fun _ => []) (TableOK.cons x_Trunc TableOK.nil) mixed Try.func50 (by kernel_rfl) 50
theorem x_rte : Snd 51 (inG isNum (intV .even)) := int_ok (name := "math.RoundToEven") (way := .even) ⟨⟨Try.f51, Try.func51, by kernel_rfl, by kernel_rfl, by kernel_rfl, by kernel_rfl⟩⟩
def inT (BC : Int → Nat → Bool) (BV : Int → Nat → BitVec 64) (m c n : Bool) (w : Int) (ic : Bool) (v : Nat) : Option D := if (!m) = true then some (.tup [.u64 0#64, .i .i64 2]) else if c = true then if n = true then (if wOK w = true then okT (naW w) else none) else (if ic = true then (if (wOK w && BC w v) = true then okT (BV w v) else none) else none) else none
theorem nf_one13 (M : Int → List (BitVec 64) → Bool) (C N : Int → BitVec 64 → Bool) (X : Int → BitVec 64 → Nat) (BC : Int → Nat → Bool) (BV : Int → Nat → BitVec 64) (IC : Nat → Bool) (V : Nat → Nat) (w : Int) (a : BitVec 64) : ex [(29, fmayG M), (30, ofG C N X), (33, bitsG BC BV), (48, lCeil IC V)] (fun _ => []) Try.f25 [.u8 13#8, .i .i64 w, .u64 a] some = inT BC BV (M w [a]) (C w a) (N w a) w (IC (X w a)) (V (X w a)) := by kernel_rfl
theorem nf_one14 (M : Int → List (BitVec 64) → Bool) (C N : Int → BitVec 64 → Bool) (X : Int → BitVec 64 → Nat) (BC : Int → Nat → Bool) (BV : Int → Nat → BitVec 64) (IC : Nat → Bool) (V : Nat → Nat) (w : Int) (a : BitVec 64) : ex [(29, fmayG M), (30, ofG C N X), (33, bitsG BC BV), (49, lFloor IC V)] (fun _ => []) Try.f25 [.u8 14#8, .i .i64 w, .u64 a] some = inT BC BV (M w [a]) (C w a) (N w a) w (IC (X w a)) (V (X w a)) := by kernel_rfl
theorem nf_one15 (M : Int → List (BitVec 64) → Bool) (C N : Int → BitVec 64 → Bool) (X : Int → BitVec 64 → Nat) (BC : Int → Nat → Bool) (BV : Int → Nat → BitVec 64) (IC : Nat → Bool) (V : Nat → Nat) (w : Int) (a : BitVec 64) : ex [(29, fmayG M), (30, ofG C N X), (33, bitsG BC BV), (50, lTrunc IC V)] (fun _ => []) Try.f25 [.u8 15#8, .i .i64 w, .u64 a] some = inT BC BV (M w [a]) (C w a) (N w a) w (IC (X w a)) (V (X w a)) := by kernel_rfl
theorem nf_one16 (M : Int → List (BitVec 64) → Bool) (C N : Int → BitVec 64 → Bool) (X : Int → BitVec 64 → Nat) (BC : Int → Nat → Bool) (BV : Int → Nat → BitVec 64) (IC : Nat → Bool) (V : Nat → Nat) (w : Int) (a : BitVec 64) : ex [(29, fmayG M), (30, ofG C N X), (33, bitsG BC BV), (51, inG IC V)] (fun _ => []) Try.f25 [.u8 16#8, .i .i64 w, .u64 a] some = inT BC BV (M w [a]) (C w a) (N w a) w (IC (X w a)) (V (X w a)) := by kernel_rfl
theorem inT_ok {w : Int} {a : BitVec 64} (way : Ieee.Toward) (h : inF w a = true) : inT bsC bsV (maW w [a]) (inF w a) (noW w a) w (isNum (wdW w a)) (intV way (wdW w a)) = okT (rnW way w a) := by
  have hw := in_ok h
  rw [maW1, h]
  unfold inT
  cases hn : noW w a
  · obtain ⟨h1, h2⟩ := bs_int way h hn
    have h3 : isNum (wdW w a) = true := by unfold isNum; rw [wd_notN h hn]; rfl
    rw [h1, h2, h3, hw]; rfl
  · rw [hw]
    unfold rnW
    rw [hn]; rfl
def wayO (o : BitVec 8) : Ieee.Toward := if (o == 13#8) = true then .up else if (o == 14#8) = true then .down else if (o == 15#8) = true then .zero else .even
def inO (o : BitVec 8) (w : Int) (a : BitVec 64) : Bool := (o == 13#8 || o == 14#8 || o == 15#8 || o == 16#8) && inF w a
def inV (o : BitVec 8) (w : Int) (a : BitVec 64) : BitVec 64 := rnW (wayO o) w a
theorem f_int : Snd 25 (onG inO inV) := by
  refine Sound.of_ptG fun ds d hd => ?_
  split at hd
  · rename_i o w a
    rw [Option.some.injEq, Prod.mk.injEq] at hd
    obtain ⟨hc, rfl⟩ := hd
    simp only [inO, Bool.and_eq_true, Bool.or_eq_true, beq_iff_eq] at hc
    obtain ⟨ho, hi⟩ := hc
    rcases ho with ((rfl | rfl) | rfl) | rfl
    · exact (execFn_sound (P := Try.prog) (G := G0) (ann := fun _ => []) (TableOK.cons f_may (TableOK.cons f_of (TableOK.cons f_bits (TableOK.cons s_Ceil TableOK.nil)))) mixed Try.func25 (by kernel_rfl) 50).pt ((nf_one13 _ _ _ _ _ _ _ _ w a).trans (inT_ok .up hi))
    · exact (execFn_sound (P := Try.prog) (G := G0) (ann := fun _ => []) (TableOK.cons f_may (TableOK.cons f_of (TableOK.cons f_bits (TableOK.cons s_Floor TableOK.nil)))) mixed Try.func25 (by kernel_rfl) 50).pt ((nf_one14 _ _ _ _ _ _ _ _ w a).trans (inT_ok .down hi))
    · exact (execFn_sound (P := Try.prog) (G := G0) (ann := fun _ => []) (TableOK.cons f_may (TableOK.cons f_of (TableOK.cons f_bits (TableOK.cons s_Trunc TableOK.nil)))) mixed Try.func25 (by kernel_rfl) 50).pt ((nf_one15 _ _ _ _ _ _ _ _ w a).trans (inT_ok .zero hi))
    · exact (execFn_sound (P := Try.prog) (G := G0) (ann := fun _ => []) (TableOK.cons f_may (TableOK.cons f_of (TableOK.cons f_bits (TableOK.cons x_rte TableOK.nil)))) mixed Try.func25 (by kernel_rfl) 50).pt ((nf_one16 _ _ _ _ _ _ _ _ w a).trans (inT_ok .even hi))
  · cases hd
theorem l_int : Snd 27 (onBG inO inV) := by
  refine Sound.guard (execFn_sound (ann := fun _ => []) (TableOK.cons f_int TableOK.nil) mixed Try.func27 (by kernel_rfl) 50) fun ds d h => ?_
  split at h
  · rename_i o w a
    simp only [Option.some.injEq, Prod.mk.injEq] at h
    obtain ⟨hc, rfl⟩ := h
    refine (nf_lone _ _ o w a).trans ?_
    rw [hc]; rfl
  · cases h
end Go.L04

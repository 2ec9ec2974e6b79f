/-
  Part of the proof; what its functions and lemmas say stands in the text.
-/
import Derived.Test.YtnbafdmlfpmfkaaGreatDoorR23
import Derived.Test.YtnbafdmlfpmfkaaGreatDoorFlB
set_option linter.unusedSimpArgs false
set_option linter.unusedVariables false
namespace Go.L23F
open Go.Ev Go.Proofs Go.RowKit Go.Fl
open Go.L23
open Go.L23
theorem x_of64 : Snd 209 of64S := of64_ok ⟨⟨Tryz.f209, Tryz.func209, by kernel_rfl, by kernel_rfl, by kernel_rfl, by kernel_rfl⟩⟩
theorem x_of32 : Snd 208 of32S := of32_ok ⟨⟨Tryz.f208, Tryz.func208, by kernel_rfl, by kernel_rfl, by kernel_rfl, by kernel_rfl⟩⟩
theorem x_to32 : Snd 205 to32S := to32_ok ⟨⟨Tryz.f205, Tryz.func205, by kernel_rfl, by kernel_rfl, by kernel_rfl, by kernel_rfl⟩⟩
theorem x_to64 : Snd 206 to64S := to64_ok ⟨⟨Tryz.f206, Tryz.func206, by kernel_rfl, by kernel_rfl, by kernel_rfl, by kernel_rfl⟩⟩
end Go.L23F
namespace Go.L23F
open Go.Ev Go.Proofs Go.RowKit Go.Wh Go.Fl
open Go.L23
open Go.L23
def annF : Nat → List Nat := fun | 4 => [0, 13, 14, 15] | _ => []
noncomputable def fmayG (M : Int → List (BitVec 64) → Bool) : Ev.Spec := joined fun | [.i .i64 w, .sl64 [a]] => some (.bool (M w [a])) | [.i .i64 w, .sl64 [a, b]] => some (.bool (M w [a, b])) | _ => none
def f1T (w32 : Bool) (c : Bool) (x : Option D) : Option D := if w32 = true then if (!c) = true then some (.bool false) else x else x
theorem nf_fm1 (w : Int) (a : BitVec 64) : ex [] annF Tryz.f210 [.i .i64 w, .sl64 [a]] some =
 if (!(w == 32)) = true then if (!(w == 64)) = true then some (.bool false) else f1T (w == 32) (a >>> 32 == 0#64) (some (.bool true)) else f1T (w == 32) (a >>> 32 == 0#64) (some (.bool true)) := by kernel_rfl
theorem nf_fm2 (w : Int) (a b : BitVec 64) : ex [] annF Tryz.f210 [.i .i64 w, .sl64 [a, b]] some =
 if (!(w == 32)) = true then if (!(w == 64)) = true then some (.bool false) else f1T (w == 32) (a >>> 32 == 0#64) (f1T (w == 32) (b >>> 32 == 0#64) (some (.bool true))) else f1T (w == 32) (a >>> 32 == 0#64) (f1T (w == 32) (b >>> 32 == 0#64) (some (.bool true))) := by kernel_rfl
theorem f_may : Snd 210 (fmayG maW) := by
 refine Sound.join (execFn_sound (ann := annF) TableOK.nil mixed Tryz.func210 (by kernel_rfl) 50) fun ds d h => ?_
 split at h
 ·rename_i w a
  cases h
  refine (nf_fm1 w a).trans ?_
  unfold maW wOK fiW f1T
  simp only [List.all_cons, List.all_nil, Bool.and_true]
  have h := w3264 w
  generalize (a >>> 32 == 0#64) = c
  revert h
  generalize (w == 32) = x1
  generalize (w == 64) = x2
  intro h
  cases x1 <;> cases x2 <;> cases c <;> first | rfl | (exact absurd (h rfl) (by decide))
 ·rename_i w a b
  cases h
  refine (nf_fm2 w a b).trans ?_
  unfold maW wOK fiW f1T
  simp only [List.all_cons, List.all_nil, Bool.and_true]
  have h := w3264 w
  generalize (a >>> 32 == 0#64) = c
  generalize (b >>> 32 == 0#64) = c2
  revert h
  generalize (w == 32) = x1
  generalize (w == 64) = x2
  intro h
  cases x1 <;> cases x2 <;> cases c <;> cases c2 <;> first | rfl | (exact absurd (h rfl) (by decide))
 ·cases h
def f2fT (x : Ieee.Datum) : Option D := match x with
 | .nan _ _ => some (.nan .f64)
 | .infinity g => some (.f .f64 (FloatKind.f64.encode (.infinity g)))
 | .number g m e => if (FloatKind.f64.decode (FloatKind.f64.encode (.number g m e))).isInfinity then some (.xf .f64 (fun x => x < 2 ^ 32)) else some (.f .f64 (FloatKind.f64.encode (.number g m e)))
noncomputable def ofG (C N : Int → BitVec 64 → Bool) (X : Int → BitVec 64 → Nat) : Ev.Spec := gtwo fun | [.i .i64 w, .u64 a] => some (C w a, N w a, .nan .f64, .f .f64 (X w a)) | _ => none
theorem nf_fof32 (a : BitVec 64) : ex [(205, to32S), (206, to64S)] (fun _ => []) Tryz.f211 [.i .i64 32, .u64 a] some = f2fT (Ieee.single.read (BitVec.setWidth 32 a).toNat) := by kernel_rfl
theorem nf_fof64 (a : BitVec 64) : ex [(205, to32S), (206, to64S)] (fun _ => []) Tryz.f211 [.i .i64 64, .u64 a] some = some (.f .f64 a.toNat) := by kernel_rfl
theorem S_fof : Sound Tryz.prog G0 211 (ex [(205, to32S), (206, to64S)] (fun _ => []) Tryz.f211) := execFn_sound (ann := fun _ => []) (TableOK.cons x_to32 (TableOK.cons x_to64 TableOK.nil)) mixed Tryz.func211 (by kernel_rfl) 50
theorem lo32 {a : BitVec 64} (h : a.toNat < 4294967296) : (BitVec.setWidth 32 a).toNat = a.toNat := by
 rw [BitVec.toNat_setWidth, Nat.mod_eq_of_lt (by omega)]
theorem no_inf {x : Nat} (h : fin Ieee.double x = true) : (FloatKind.f64.decode x).isInfinity = false := by
 show (Ieee.double.read x).isInfinity = false
 rw [read_fin h]; rfl
theorem f_of : Snd 211 (ofG inF noW wdW) := by
 refine Sound.of_gtwo fun ds b d e hd => ?_
 split at hd
 ·rename_i w a
  simp only [Option.some.injEq, Prod.mk.injEq] at hd
  obtain ⟨hi, rfl, rfl, rfl⟩ := hd
  rcases inF_cases hi with ⟨rfl, ha⟩ | rfl
  ·cases hn : noW 32 a
   ·rw [if_neg (by decide)]
    refine S_fof.pt ((nf_fof32 a).trans ?_)
    rw [lo32 ha]
    have hn' : isN Ieee.single a.toNat = false := hn
    show _ = some (D.f .f64 (lng a.toNat))
    unfold lng
    cases h1 : fin Ieee.single a.toNat
    ·have e := read_infty two_s h1 hn'
     rw [e]
     rfl
    ·have e := read_fin h1
     obtain ⟨a1, _, _⟩ := longer h1
     rw [e] at a1 ⊢
     show (if (FloatKind.f64.decode (FloatKind.f64.encode _)).isInfinity = true then _ else _) = _
     have := no_inf a1
     rw [show FloatKind.f64.encode (.number (ng Ieee.single a.toNat) (mg Ieee.single a.toNat) (pl Ieee.single a.toNat)) = Ieee.double.write (.number (ng Ieee.single a.toNat) (mg Ieee.single a.toNat) (pl Ieee.single a.toNat)) from rfl, this]
     rfl
   ·rw [if_pos rfl]
    refine S_fof.pt ((nf_fof32 a).trans ?_)
    rw [lo32 ha]
    obtain ⟨u, hu⟩ := read_none two_s (x := a.toNat) hn
    rw [hu]; rfl
  ·cases hn : noW 64 a
   ·rw [if_neg (by decide)]
    exact S_fof.pt (nf_fof64 a)
   ·rw [if_pos rfl]
    refine Pt.weak (S_fof.pt (nf_fof64 a)) fun own w v hv => ?_
    simp only [lies] at hv ⊢
    refine ⟨_, hv, ?_, a.isLt⟩
    show (Ieee.double.read a.toNat).isNaN = true
    rw [isN_iff two_d]
    exact hn
 ·cases hd
abbrev CV := BitVec 8 → Int → BitVec 64 → BitVec 64 → Bool
abbrev CE := BitVec 8 → Int → BitVec 64 → BitVec 64 → Int
noncomputable def thanG (V : CV) (E : CE) : Ev.Spec := joined fun | [.u8 o, .i .i64 w, .u64 a, .u64 b] => some (.tup [.bool (V o w a b), .i .i64 (E o w a b)]) | _ => none
theorem than_ok {o : BitVec 8} {w : Int} {a b : BitVec 64} (hm : maW w [a, b] = true) : some (D.tup [.bool (fcmV leW eqW o w a b), .i .i64 (thE o)]) = some (D.tup [.bool (fthV o w a b), .i .i64 (fthE o w a b)]) := by
 unfold fthV fthE
 rw [hm, Bool.true_and]; rfl
theorem nf_fthan (M : Int → List (BitVec 64) → Bool) (C N : Int → BitVec 64 → Bool) (X : Int → BitVec 64 → Nat) (o : BitVec 8) (w : Int) (a b : BitVec 64) : ex [(210, fmayG M), (211, ofG C N X)] (fun _ => []) Tryz.f131 [.u8 o, .i .i64 w, .u64 a, .u64 b] some =
 if (!M w [a, b]) = true then some (.tup [.bool false, .i .i64 2]) else if C w a = true then if N w a = true then (if C w b = true then if N w b = true then thT false false false o else thT false false false o else none)
  else (if C w b = true then if N w b = true then thT false false false o else thT (FloatKind.f64.format.order (X w a) (X w b) == some .eq) (FloatKind.f64.format.order (X w a) (X w b) == some .lt) (FloatKind.f64.format.order (X w a) (X w b) == some .gt) o else none) else none := by kernel_rfl
theorem f_than : Snd 131 (thanG fthV fthE) := by
 refine Sound.join (execFn_sound (ann := fun _ => []) (TableOK.cons f_may (TableOK.cons f_of TableOK.nil)) mixed Tryz.func131 (by kernel_rfl) 50) fun ds d h => ?_
 split at h
 ·rename_i o w a b
  cases h
  refine (nf_fthan _ _ _ _ o w a b).trans ?_
  cases hm : maW w [a, b]
  ·unfold fthV fthE
   rw [hm]; rfl
  ·obtain ⟨ia, ib⟩ := maW2 hm
   rw [ia, ib]
   refine Eq.trans ?_ (than_ok hm)
   have none3 : (noW w a || noW w b) = true → thT false false false o = some (.tup [.bool (fcmV leW eqW o w a b), .i .i64 (thE o)]) := fun hn => by
    refine thT_eq o w a b ?_ ?_ ?_
    ·unfold eqW; revert hn; cases noW w a <;> cases noW w b <;> intro hn <;> first | rfl | cases hn
    ·unfold leW; revert hn; cases noW w a <;> cases noW w b <;> intro hn <;> first | rfl | cases hn
    ·unfold leW; revert hn; cases noW w a <;> cases noW w b <;> intro hn <;> first | rfl | cases hn
   cases na : noW w a <;> cases nb : noW w b
   ·exact thT_eq o w a b (ord_eq ia ib na nb) (ord_lt ia ib na nb) (ord_gt ia ib na nb)
   ·exact none3 (by rw [na, nb]; rfl)
   ·exact none3 (by rw [na, nb]; rfl)
   ·exact none3 (by rw [na, nb]; rfl)
 ·cases h
end Go.L23F
namespace Go.L23F
open Go.Ev Go.Proofs Go.RowKit Go.Wh Go.Fl
open Go.L23
open Go.L23
def ar4 (o : BitVec 8) : Bool := o == 1#8 || o == 2#8 || o == 3#8 || o == 4#8
def ar4S {β : Type} (o : BitVec 8) (x y z u : β) (e : β) : β := if (o == 1#8) = true then x else if (o == 2#8) = true then y else if (o == 3#8) = true then z else if (o == 4#8) = true then u else e
theorem ar4_eq {β γ : Type} (k : γ → β) (x y z u : γ) (e : β) {o : BitVec 8} (h : ar4 o = true) : ar4S o (k x) (k y) (k z) (k u) e = k (if (o == 1#8) = true then x else if (o == 2#8) = true then y else if (o == 3#8) = true then z else u) := by
 unfold ar4S
 unfold ar4 at h
 revert h
 cases (o == 1#8) <;> first | (intro; rfl) | skip
 cases (o == 2#8) <;> first | (intro; rfl) | skip
 cases (o == 3#8) <;> first | (intro; rfl) | skip
 cases (o == 4#8) <;> intro h <;> first | rfl | cases h
noncomputable def bitsG (BC : Int → Nat → Bool) (BV : Int → Nat → BitVec 64) : Ev.Spec := guarded fun | [.i .i64 w, .f .f64 x] => some (wOK w && BC w x, .u64 (BV w x)) | [.i .i64 w, .nan .f64] => some (wOK w, .u64 (naW w)) | _ => none
noncomputable abbrev lB1 : Ev.Spec := ex [(208, of32S), (209, of64S)] (fun _ => []) Tryz.f274
theorem s_b1 : Snd 274 lB1 := execFn_sound (ann := fun _ => []) (TableOK.cons x_of32 (TableOK.cons x_of64 TableOK.nil)) mixed Tryz.func274 (by kernel_rfl) 50
def f2sT (x : Ieee.Datum) (K : D → Option D) : Option D := match x with
 | .nan _ _ => K (.nan .f32)
 | .infinity g => K (.f .f32 (FloatKind.f32.encode (.infinity g)))
 | .number g m e => if (FloatKind.f32.decode (FloatKind.f32.encode (.number g m e))).isInfinity then K (.xf .f32 (fun x => x < 2 ^ 32)) else K (.f .f32 (FloatKind.f32.encode (.number g m e)))
def bitK : D → Option D
 | .f .f32 n => if decide (n < 2 ^ 32) = true then some (.u64 (BitVec.setWidth 64 (BitVec.ofNat 32 n))) else none
 | .nan .f32 => some (.xi .u64 (fun m => ∃ n, nanI .f32 n ∧ m = IntKind.u64.wrap n))
 | .xf .f32 p => some (.xi .u64 (fun m => ∃ n : Int, (∃ x : Nat, n = (x : Int) ∧ p x) ∧ m = IntKind.u64.wrap n))
 | _ => none
theorem nf_bits64 (x : Nat) : ex [(274, lB1)] (fun _ => []) Tryz.f213 [.i .i64 64, .f .f64 x] some = if (!(FloatKind.f64.format.order x x == some .eq)) = true then some (.u64 9221120237041090560#64) else if decide (x < 2 ^ 64) = true then some (.u64 (BitVec.ofNat 64 x)) else none := by kernel_rfl
theorem nf_bits32 (x : Nat) : ex [(274, lB1)] (fun _ => []) Tryz.f213 [.i .i64 32, .f .f64 x] some = if (!(FloatKind.f64.format.order x x == some .eq)) = true then some (.u64 2143289344#64) else f2sT (Ieee.double.read x) bitK := by kernel_rfl
theorem nf_bitsN64 : ex [(274, lB1)] (fun _ => []) Tryz.f213 [.i .i64 64, .nan .f64] some = some (.u64 9221120237041090560#64) := by kernel_rfl
theorem nf_bitsN32 : ex [(274, lB1)] (fun _ => []) Tryz.f213 [.i .i64 32, .nan .f64] some = some (.u64 2143289344#64) := by kernel_rfl
theorem up32 {n : Nat} (h : n < 2 ^ 32) : BitVec.setWidth 64 (BitVec.ofNat 32 n) = BitVec.ofNat 64 n := by
 apply BitVec.eq_of_toNat_eq
 rw [BitVec.toNat_setWidth, BitVec.toNat_ofNat, BitVec.toNat_ofNat, Nat.mod_eq_of_lt h]
theorem bitK_f {n : Nat} (h : n < 2 ^ 32) : bitK (.f .f32 n) = some (.u64 (BitVec.ofNat 64 n)) := (if_pos (decide_eq_true h)).trans (by rw [up32 h])
theorem f_bits : Snd 213 (bitsG bsC bsV) := by
 refine Sound.guard (execFn_sound (ann := fun _ => []) (TableOK.cons s_b1 TableOK.nil) mixed Tryz.func213 (by kernel_rfl) 50) fun ds d h => ?_
 have self : ∀ x, (FloatKind.f64.format.order x x == some Ordering.eq) = !isN Ieee.double x := fun x => order_self (f := Ieee.double) two_d
 split at h
 ·rename_i w x
  simp only [Option.some.injEq, Prod.mk.injEq, Bool.and_eq_true] at h
  obtain ⟨⟨hw, hc⟩, rfl⟩ := h
  rcases wOK_cases hw with rfl | rfl
  ·refine (nf_bits32 x).trans ?_
   rw [self]
   unfold bsV
   cases hn : isN Ieee.double x
   ·simp only [Bool.not_false, Bool.not_true, Bool.false_eq_true, if_false, if_true]
    have hc' : (isN Ieee.double x || fin Ieee.single (Ieee.single.write (Ieee.double.read x)) || !fin Ieee.double x) = true := hc
    rw [hn] at hc'
    cases hf : fin Ieee.double x
    ·have e := read_infty two_d hf hn
     rw [e]
     show bitK (.f .f32 (Ieee.single.write (.infinity (ng Ieee.double x)))) = _
     have hlt : Ieee.single.write (.infinity (ng Ieee.double x)) < 2 ^ 32 := write_lt two_s _
     exact bitK_f hlt
    ·rw [hf] at hc'
     have e := read_fin hf
     rw [e] at hc' ⊢
     have hfin : fin Ieee.single (Ieee.single.write (.number (ng Ieee.double x) (mg Ieee.double x) (pl Ieee.double x))) = true := by simpa using hc'
     show (if (Ieee.single.read (Ieee.single.write (.number (ng Ieee.double x) (mg Ieee.double x) (pl Ieee.double x)))).isInfinity = true then _ else _) = _
     have hlt : Ieee.single.write (.number (ng Ieee.double x) (mg Ieee.double x) (pl Ieee.double x)) < 2 ^ 32 := write_lt two_s _
     have hi : (Ieee.single.read (Ieee.single.write (.number (ng Ieee.double x) (mg Ieee.double x) (pl Ieee.double x)))).isInfinity = false := by
      rw [read_fin hfin]; rfl
     rw [hi]
     show bitK (.f .f32 (Ieee.single.write (.number (ng Ieee.double x) (mg Ieee.double x) (pl Ieee.double x)))) = _
     exact bitK_f hlt
   ·rfl
  ·refine (nf_bits64 x).trans ?_
   rw [self]
   unfold bsV
   cases hn : isN Ieee.double x
   ·have hc' : decide (x < 2 ^ 64) = true := hc
    rw [hc']; rfl
   ·rfl
 ·rename_i w
  simp only [Option.some.injEq, Prod.mk.injEq] at h
  obtain ⟨hw, rfl⟩ := h
  rcases wOK_cases hw with rfl | rfl
  ·exact nf_bitsN32
  ·exact nf_bitsN64
 ·cases h
noncomputable def s32G (V : BitVec 8 → BitVec 64 → BitVec 64 → BitVec 64) : Ev.Spec := guarded fun | [.u8 o, .u64 a, .u64 b] => some (ar4 o && inF 32 a && inF 32 b, .u64 (V o a b)) | _ => none
def s32T (r : Option Nat) : Option D := match r with
 | some r => if (!(FloatKind.f32.format.order r r == some .eq)) = true then some (.u64 2143289344#64) else if decide (r < 2 ^ 32) = true then some (.u64 (BitVec.setWidth 64 (BitVec.ofNat 32 r))) else none
 | none => some (.u64 2143289344#64)
theorem nf_s32 (o : BitVec 8) (a b : BitVec 64) : ex [(205, to32S), (208, of32S)] (fun _ => []) Tryz.f219 [.u8 o, .u64 a, .u64 b] some =
 ar4S o (s32T (Ieee.single.add (BitVec.setWidth 32 a).toNat (BitVec.setWidth 32 b).toNat)) (s32T (Ieee.single.sub (BitVec.setWidth 32 a).toNat (BitVec.setWidth 32 b).toNat)) (s32T (Ieee.single.mul (BitVec.setWidth 32 a).toNat (BitVec.setWidth 32 b).toNat)) (s32T (Ieee.single.div (BitVec.setWidth 32 a).toNat (BitVec.setWidth 32 b).toNat)) (some (.u64 0#64)) := by kernel_rfl
theorem s32_cl {o : BitVec 8} {x y : Nat} : s32T (arN o Ieee.single x y) = some (.u64 (clO 32 (arN o Ieee.single x y))) := by
 cases hr : arN o Ieee.single x y with
 | none => rfl
 | some r =>
  have hlt : r < 2 ^ 32 := arN_lt two_s o hr
  have self : (FloatKind.f32.format.order r r == some Ordering.eq) = !isN Ieee.single r := order_self (f := Ieee.single) two_s
  unfold s32T clO
  simp only
  rw [self, decide_eq_true hlt, up32 hlt]
  show _ = some (D.u64 (if isN Ieee.single r = true then _ else _))
  cases isN Ieee.single r <;> rfl
theorem in_32 {a : BitVec 64} (h : inF 32 a = true) : (BitVec.setWidth 32 a).toNat = a.toNat := by
 rcases inF_cases h with ⟨_, h⟩ | h
 ·exact lo32 h
 ·cases h
theorem f_s32 : Snd 219 (s32G fun o a b => arW o 32 a b) := by
 refine Sound.guard (execFn_sound (ann := fun _ => []) (TableOK.cons x_to32 (TableOK.cons x_of32 TableOK.nil)) mixed Tryz.func219 (by kernel_rfl) 50) fun ds d h => ?_
 split at h
 ·rename_i o a b
  simp only [Option.some.injEq, Prod.mk.injEq, Bool.and_eq_true] at h
  obtain ⟨⟨⟨ho, ha⟩, hb⟩, rfl⟩ := h
  refine (nf_s32 o a b).trans ((ar4_eq s32T _ _ _ _ _ ho).trans ?_)
  rw [in_32 ha, in_32 hb]
  exact s32_cl
 ·cases h
noncomputable def s64G (V : BitVec 8 → Nat → Nat → BitVec 64) : Ev.Spec := guarded fun | [.u8 o, .f .f64 x, .f .f64 y] => some (ar4 o, .u64 (V o x y)) | [.u8 o, .nan .f64, .f .f64 _] => some (ar4 o, .u64 (naW 64)) | [.u8 o, .f .f64 _, .nan .f64] => some (ar4 o, .u64 (naW 64)) | [.u8 o, .nan .f64, .nan .f64] => some (ar4 o, .u64 (naW 64)) | _ => none
def s64T (BC : Int → Nat → Bool) (BV : Int → Nat → BitVec 64) (r : Option Nat) : Option D := match r with
 | some r => if (wOK 64 && BC 64 r) = true then some (.u64 (BV 64 r)) else none
 | none => some (.u64 (naW 64))
theorem nf_s64 (BC : Int → Nat → Bool) (BV : Int → Nat → BitVec 64) (o : BitVec 8) (x y : Nat) : ex [(213, bitsG BC BV)] (fun _ => []) Tryz.f220 [.u8 o, .f .f64 x, .f .f64 y] some =
 ar4S o (s64T BC BV (Ieee.double.add x y)) (s64T BC BV (Ieee.double.sub x y)) (s64T BC BV (Ieee.double.mul x y)) (s64T BC BV (Ieee.double.div x y)) (s64T BC BV (some 0)) := by kernel_rfl
theorem nf_s64n (BC : Int → Nat → Bool) (BV : Int → Nat → BitVec 64) (o : BitVec 8) (x : Nat) : ex [(213, bitsG BC BV)] (fun _ => []) Tryz.f220 [.u8 o, .nan .f64, .f .f64 x] some =
 ar4S o (some (.u64 (naW 64))) (some (.u64 (naW 64))) (some (.u64 (naW 64))) (some (.u64 (naW 64))) (s64T BC BV (some 0)) := by kernel_rfl
theorem nf_s64m (BC : Int → Nat → Bool) (BV : Int → Nat → BitVec 64) (o : BitVec 8) (x : Nat) : ex [(213, bitsG BC BV)] (fun _ => []) Tryz.f220 [.u8 o, .f .f64 x, .nan .f64] some =
 ar4S o (some (.u64 (naW 64))) (some (.u64 (naW 64))) (some (.u64 (naW 64))) (some (.u64 (naW 64))) (s64T BC BV (some 0)) := by kernel_rfl
theorem nf_s64b (BC : Int → Nat → Bool) (BV : Int → Nat → BitVec 64) (o : BitVec 8) : ex [(213, bitsG BC BV)] (fun _ => []) Tryz.f220 [.u8 o, .nan .f64, .nan .f64] some =
 ar4S o (some (.u64 (naW 64))) (some (.u64 (naW 64))) (some (.u64 (naW 64))) (some (.u64 (naW 64))) (s64T BC BV (some 0)) := by kernel_rfl
theorem s64_cl {o : BitVec 8} {x y : Nat} : s64T bsC bsV (arN o Ieee.double x y) = some (.u64 (clO 64 (arN o Ieee.double x y))) := by
 cases hr : arN o Ieee.double x y with
 | none => rfl
 | some r =>
  have hlt : r < 2 ^ 64 := arN_lt two_d o hr
  unfold s64T clO
  simp only
  have hc : (wOK 64 && bsC 64 r) = true := by
   show decide (r < 2 ^ 64) = true
   exact decide_eq_true hlt
  rw [if_pos hc]
  rfl
theorem f_s64 : Snd 220 (s64G fun o x y => clO 64 (arN o Ieee.double x y)) := by
 refine Sound.guard (execFn_sound (ann := fun _ => []) (TableOK.cons f_bits TableOK.nil) mixed Tryz.func220 (by kernel_rfl) 50) fun ds d h => ?_
 split at h
 ·rename_i o x y
  simp only [Option.some.injEq, Prod.mk.injEq] at h
  obtain ⟨ho, rfl⟩ := h
  exact (nf_s64 _ _ o x y).trans ((ar4_eq (s64T bsC bsV) _ _ _ _ _ ho).trans s64_cl)
 ·rename_i o x
  simp only [Option.some.injEq, Prod.mk.injEq] at h
  obtain ⟨ho, rfl⟩ := h
  exact (nf_s64n _ _ o x).trans ((ar4_eq (fun _ : Unit => some (D.u64 (naW 64))) () () () () _ ho).trans rfl)
 ·rename_i o x
  simp only [Option.some.injEq, Prod.mk.injEq] at h
  obtain ⟨ho, rfl⟩ := h
  exact (nf_s64m _ _ o x).trans ((ar4_eq (fun _ : Unit => some (D.u64 (naW 64))) () () () () _ ho).trans rfl)
 ·rename_i o
  simp only [Option.some.injEq, Prod.mk.injEq] at h
  obtain ⟨ho, rfl⟩ := h
  exact (nf_s64b _ _ o).trans ((ar4_eq (fun _ : Unit => some (D.u64 (naW 64))) () () () () _ ho).trans rfl)
 ·cases h
noncomputable def pickG (C : Nat → Nat → Bool) (V : Nat → Nat → Nat) (V1 V2 : Nat → Nat) : Ev.Spec := guarded fun
 | [.f .f64 x, .f .f64 y] => some (C x y, .f .f64 (V x y))
 | [.nan .f64, .nan .f64] => some (true, .f .f64 libNaN)
 | [.nan .f64, .f .f64 y] => some (true, .f .f64 (V1 y))
 | [.f .f64 x, .nan .f64] => some (true, .f .f64 (V2 x))
 | _ => none
def pkC (x y : Nat) : Bool := !isN Ieee.double x && !isN Ieee.double y && decide (x < 2 ^ 64) && decide (y < 2 ^ 64)
noncomputable def pkN (neg : Bool) (x : Nat) : Nat := if (FloatKind.f64.decode x == .infinity neg) = true then FloatKind.f64.encode (.infinity neg) else libNaN
noncomputable abbrev pickA (neg : Bool) : Ev.Spec := pickG pkC (pickF Ieee.double neg) (pkN neg) (pkN neg)
theorem pickA_ok {neg : Bool} {win : Ordering} {name : String} {g : Nat} (hw : win = if neg = true then .lt else .gt) (x : ExtF Tryz.prog g (Extern.MathDim.pick name neg win)) : Snd g (pickA neg) := by
 refine Sound.of_ptG fun ds d hd => ?_
 split at hd
 ·simp only [Option.some.injEq, Prod.mk.injEq] at hd
  obtain ⟨hc, rfl⟩ := hd
  exact (pick_ok hw x).pt (if_pos hc)
 ·simp only [Option.some.injEq, Prod.mk.injEq] at hd
  obtain ⟨_, rfl⟩ := hd
  exact (pickN_ok x).pt rfl
 ·simp only [Option.some.injEq, Prod.mk.injEq] at hd
  obtain ⟨_, rfl⟩ := hd
  exact (pickN_ok x).pt rfl
 ·simp only [Option.some.injEq, Prod.mk.injEq] at hd
  obtain ⟨_, rfl⟩ := hd
  exact (pickN_ok x).pt rfl
 ·cases hd
theorem x_min : Snd 282 (pickA true) := pickA_ok (name := "math.archMin") (win := .lt) rfl ⟨⟨Tryz.f282, Tryz.func282, by kernel_rfl, by kernel_rfl, by kernel_rfl, by kernel_rfl⟩⟩
theorem x_max : Snd 286 (pickA false) := pickA_ok (name := "math.archMax") (win := .gt) rfl ⟨⟨Tryz.f286, Tryz.func286, by kernel_rfl, by kernel_rfl, by kernel_rfl, by kernel_rfl⟩⟩
noncomputable abbrev lMin (S : Ev.Spec) : Ev.Spec := ex [(282, S)] (fun _ => []) Tryz.f221
noncomputable abbrev lMax (S : Ev.Spec) : Ev.Spec := ex [(286, S)] (fun _ => []) Tryz.f223
theorem s_min : Snd 221 (lMin (pickA true)) := execFn_sound (ann := fun _ => []) (TableOK.cons x_min TableOK.nil) mixed Tryz.func221 (by kernel_rfl) 50
theorem s_max : Snd 223 (lMax (pickA false)) := execFn_sound (ann := fun _ => []) (TableOK.cons x_max TableOK.nil) mixed Tryz.func223 (by kernel_rfl) 50
noncomputable abbrev lNaN : Ev.Spec := ex [(206, to64S)] (fun _ => []) Tryz.f284
theorem s_NaN : Snd 284 lNaN := execFn_sound (ann := fun _ => []) (TableOK.cons x_to64 TableOK.nil) mixed Tryz.func284 (by kernel_rfl) 50
noncomputable abbrev lCps : Ev.Spec := ex [(206, to64S), (209, of64S)] (fun _ => []) Tryz.f285
theorem s_Cps : Snd 285 lCps := execFn_sound (ann := fun _ => []) (TableOK.cons x_to64 (TableOK.cons x_of64 TableOK.nil)) mixed Tryz.func285 (by kernel_rfl) 50
noncomputable abbrev lNan : Ev.Spec := ex [(284, lNaN), (285, lCps)] (fun _ => []) Tryz.f222
theorem s_nan : Snd 222 lNan := execFn_sound (ann := fun _ => []) (TableOK.cons s_NaN (TableOK.cons s_Cps TableOK.nil)) mixed Tryz.func222 (by kernel_rfl) 50
noncomputable def sigG (S : Int → BitVec 64) : Ev.Spec := joined fun | [.i .i64 w] => some (.u64 (S w)) | _ => none
def sigV (w : Int) : BitVec 64 := 1#64 <<< (BitVec.ofInt 64 (IntKind.i64.wrap (w - 1))).toNat
theorem f_sig : Snd 212 (sigG sigV) := by
 refine Sound.join (execFn_sound (ann := fun _ => []) TableOK.nil mixed Tryz.func212 (by kernel_rfl) 50) fun ds d h => ?_
 split at h
 ·cases h; kernel_rfl
 ·cases h
theorem sig_W {w : Int} (h : wOK w = true) : sigV w = sgW w := by
 rcases wOK_cases h with rfl | rfl <;> decide
abbrev WV := BitVec 8 → Int → BitVec 64 → BitVec 64 → BitVec 64
noncomputable def twoG (V : WV) (E : CE) : Ev.Spec := joined fun | [.u8 o, .i .i64 w, .u64 a, .u64 b] => some (.tup [.u64 (V o w a b), .i .i64 (E o w a b)]) | _ => none
def okT (x : BitVec 64) : Option D := some (.tup [.u64 x, .i .i64 0])
def adT (BC : Int → Nat → Bool) (BV : Int → Nat → BitVec 64) (w : Int) (r : Option Nat) : Option D := match r with
 | some r => if (wOK w && BC w r) = true then okT (BV w r) else none
 | none => if wOK w = true then okT (naW w) else none
def mnT (BC : Int → Nat → Bool) (BV : Int → Nat → BitVec 64) (w : Int) (c ox oy : Bool) (v : Nat) : Option D := if c = true then if (!ox) = false then if (!oy) = true then adT BC BV w (Ieee.double.add v libNaN) else adT BC BV w (Ieee.double.add v 9223372036854775808) else adT BC BV w (Ieee.double.add v libNaN) else none
def opT (o : BitVec 8) (w : Int) (a b : BitVec 64) (g32 : Bool) (v32 v64 : BitVec 64) (mn mx : Option D) (cs : BitVec 64) (pm px : Bool) : Option D :=
 ar4S o (if (w == 32) = true then (if g32 = true then okT v32 else none) else (if ar4 o = true then okT v64 else none)) (if (w == 32) = true then (if g32 = true then okT v32 else none) else (if ar4 o = true then okT v64 else none))
  (if (w == 32) = true then (if g32 = true then okT v32 else none) else (if ar4 o = true then okT v64 else none)) (if (w == 32) = true then (if g32 = true then okT v32 else none) else (if ar4 o = true then okT v64 else none))
  (if (o == 5#8) = true then mn else if (o == 6#8) = true then mx else if (o == 7#8) = true then okT cs else if (o == 8#8) = true then (if pm = true then okT b else okT a) else if (o == 9#8) = true then (if px = true then okT b else okT a) else some (.tup [.u64 0#64, .i .i64 2]))
theorem nf_two (M : Int → List (BitVec 64) → Bool) (C N : Int → BitVec 64 → Bool) (X : Int → BitVec 64 → Nat) (V32 : BitVec 8 → BitVec 64 → BitVec 64 → BitVec 64) (V64 : BitVec 8 → Nat → Nat → BitVec 64) (BC : Int → Nat → Bool) (BV : Int → Nat → BitVec 64) (PC : Nat → Nat → Bool) (P Q : Nat → Nat → Nat) (P1 P2 Q1 Q2 : Nat → Nat) (S : Int → BitVec 64)
 (o : BitVec 8) (w : Int) (a b : BitVec 64) : ex [(210, fmayG M), (211, ofG C N X), (219, s32G V32), (220, s64G V64), (213, bitsG BC BV), (221, lMin (pickG PC P P1 P2)), (222, lNan), (223, lMax (pickG PC Q Q1 Q2)), (212, sigG S)] (fun _ => []) Tryz.f129 [.u8 o, .i .i64 w, .u64 a, .u64 b] some =
 if (!M w [a, b]) = true then some (.tup [.u64 0#64, .i .i64 2]) else if C w a = true then
  if N w a = true then (if C w b = true then
    if N w b = true then opT o w a b (ar4 o && inF 32 a && inF 32 b) (V32 o a b) (naW 64) (if wOK w = true then okT (naW w) else none) (if wOK w = true then okT (naW w) else none) (a &&& ~~~(S w) ||| b &&& S w) false false
    else opT o w a b (ar4 o && inF 32 a && inF 32 b) (V32 o a b) (naW 64) (adT BC BV w (Ieee.double.add (P1 (X w b)) libNaN)) (adT BC BV w (Ieee.double.add (Q1 (X w b)) libNaN)) (a &&& ~~~(S w) ||| b &&& S w) false false
   else none)
  else (if C w b = true then
    if N w b = true then opT o w a b (ar4 o && inF 32 a && inF 32 b) (V32 o a b) (naW 64) (if (!(FloatKind.f64.format.order (X w a) (X w a) == some .eq)) = false then adT BC BV w (Ieee.double.add (P2 (X w a)) libNaN) else adT BC BV w (Ieee.double.add (P2 (X w a)) libNaN))
     (if (!(FloatKind.f64.format.order (X w a) (X w a) == some .eq)) = false then adT BC BV w (Ieee.double.add (Q2 (X w a)) libNaN) else adT BC BV w (Ieee.double.add (Q2 (X w a)) libNaN)) (a &&& ~~~(S w) ||| b &&& S w) false false
    else opT o w a b (ar4 o && inF 32 a && inF 32 b) (V32 o a b) (V64 o (X w a) (X w b)) (mnT BC BV w (PC (X w a) (X w b)) (FloatKind.f64.format.order (X w a) (X w a) == some .eq) (FloatKind.f64.format.order (X w b) (X w b) == some .eq) (P (X w a) (X w b)))
     (mnT BC BV w (PC (X w a) (X w b)) (FloatKind.f64.format.order (X w a) (X w a) == some .eq) (FloatKind.f64.format.order (X w b) (X w b) == some .eq) (Q (X w a) (X w b))) (a &&& ~~~(S w) ||| b &&& S w)
     (FloatKind.f64.format.order (X w b) (X w a) == some .lt) (FloatKind.f64.format.order (X w a) (X w b) == some .lt)
   else none) else none := by kernel_rfl
theorem okT_tw {o : BitVec 8} {w : Int} {a b : BitVec 64} (hm : maW w [a, b] = true) : some (D.tup [.u64 (twW o w a b), .i .i64 (twE o)]) = some (D.tup [.u64 (ftwV o w a b), .i .i64 (ftwE o w a b)]) := by
 unfold ftwV ftwE
 rw [hm]; rfl
theorem opT_eq {o : BitVec 8} {w : Int} {a b : BitVec 64} (hw : wOK w = true) {g32 : Bool} {v32 v64 : BitVec 64} {mn mx : Option D} {cs : BitVec 64} {pm px : Bool}
  (h1 : w = 32 → ar4 o = true → g32 = true ∧ v32 = arW o w a b) (h2 : w = 64 → v64 = arW o w a b) (h3 : mn = okT (lsW true w a b)) (h4 : mx = okT (lsW false w a b)) (h5 : cs = (a &&& ~~~(sgW w) ||| b &&& sgW w)) (h6 : pm = leW w b a) (h7 : px = leW w a b) :
  opT o w a b g32 v32 v64 mn mx cs pm px = some (.tup [.u64 (twW o w a b), .i .i64 (twE o)]) := by
 subst h3 h4 h5 h6 h7
 have har : ar4 o = true → (if (w == 32) = true then (if g32 = true then okT v32 else none) else (if ar4 o = true then okT v64 else none)) = okT (arW o w a b) := fun ho => by
  rcases wOK_cases hw with rfl | rfl
  ·obtain ⟨g, v⟩ := h1 rfl ho
   rw [g, v]; rfl
  ·rw [h2 rfl, ho]; rfl
 unfold opT ar4S twW twE
 have hd : ar4 o = (o == 1#8 || o == 2#8 || o == 3#8 || o == 4#8) := rfl
 generalize (if (w == 32) = true then (if g32 = true then okT v32 else none) else (if ar4 o = true then okT v64 else none)) = AR at har ⊢
 rw [hd] at har
 revert har
 generalize (o == 1#8) = c1
 generalize (o == 2#8) = c2
 generalize (o == 3#8) = c3
 generalize (o == 4#8) = c4
 generalize (o == 5#8) = c5
 generalize (o == 6#8) = c6
 generalize (o == 7#8) = c7
 generalize (o == 8#8) = c8
 generalize (o == 9#8) = c9
 intro har
 cases c1
 ·cases c2
  ·cases c3
   ·cases c4
    ·cases c5 <;> first | rfl | skip
     cases c6 <;> first | rfl | skip
     cases c7 <;> first | rfl | skip
     cases c8
     ·cases c9
      ·rfl
      ·cases leW w a b <;> rfl
     ·cases leW w b a <;> rfl
    ·exact har rfl
   ·exact har rfl
  ·exact har rfl
 ·exact har rfl
theorem lib_nan : isN Ieee.double libNaN = true := by decide
theorem ad_lib {w : Int} (hw : wOK w = true) (BC : Int → Nat → Bool) (BV : Int → Nat → BitVec 64) (v : Nat) : adT BC BV w (Ieee.double.add v libNaN) = okT (naW w) := by
 rw [add_noneR two_d lib_nan]
 unfold adT
 simp only [hw, if_true]
theorem ls_nan {neg : Bool} {w : Int} {a b : BitVec 64} (h : (noW w a || noW w b) = true) : okT (naW w) = okT (lsW neg w a b) := by
 unfold lsW; rw [if_pos h]
theorem mn_num {neg : Bool} {w : Int} {a b : BitVec 64} (hw : wOK w = true) (ha : inF w a = true) (hb : inF w b = true) (na : noW w a = false) (nb : noW w b = false) :
  mnT bsC bsV w (pkC (wdW w a) (wdW w b)) (FloatKind.f64.format.order (wdW w a) (wdW w a) == some .eq) (FloatKind.f64.format.order (wdW w b) (wdW w b) == some .eq) (pickF Ieee.double neg (wdW w a) (wdW w b)) = okT (lsW neg w a b) := by
 obtain ⟨p1, p2, p3, p4⟩ := bs_pick (neg := neg) ha hb na nb
 have self : ∀ x, (FloatKind.f64.format.order x x == some Ordering.eq) = !isN Ieee.double x := fun x => order_self (f := Ieee.double) two_d
 have hc : pkC (wdW w a) (wdW w b) = true := by
  unfold pkC
  rw [wd_notN ha na, wd_notN hb nb, decide_eq_true (wd_lt ha na), decide_eq_true (wd_lt hb nb)]; rfl
 rw [hc, self, self, wd_notN ha na, wd_notN hb nb]
 have hz : Ieee.double.read 9223372036854775808 = .number true 0 (-1074) := by decide
 have e : Ieee.double.add (pickF Ieee.double neg (wdW w a) (wdW w b)) 9223372036854775808 = some (pickF Ieee.double neg (wdW w a) (wdW w b)) := add_neg0 two_d p1 p2 hz (by decide)
 show adT bsC bsV w (Ieee.double.add (pickF Ieee.double neg (wdW w a) (wdW w b)) 9223372036854775808) = _
 rw [e]
 unfold adT
 simp only [hw, p3, p4, Bool.and_true, if_true]
theorem in_ok {w : Int} {a : BitVec 64} (h : inF w a = true) : wOK w = true := by
 unfold inF at h
 rw [Bool.and_eq_true] at h
 exact h.1
theorem ar_nan {o : BitVec 8} {w : Int} {a b : BitVec 64} (h : (noW w a || noW w b) = true) : naW w = arW o w a b := by
 unfold arW
 rw [Bool.or_eq_true] at h
 rcases h with h | h
 ·rw [arN_nanL (two_fm w) o h]; rfl
 ·rw [arN_nanR (two_fm w) o h]; rfl
theorem le_nan {w : Int} {a b : BitVec 64} (h : (noW w a || noW w b) = true) : leW w a b = false := by
 unfold leW
 revert h
 cases noW w a <;> cases noW w b <;> intro h <;> first | rfl | cases h
theorem f_two : Snd 129 (twoG ftwV ftwE) := by
 refine Sound.join (execFn_sound (ann := fun _ => []) (TableOK.cons f_may (TableOK.cons f_of (TableOK.cons f_s32 (TableOK.cons f_s64 (TableOK.cons f_bits (TableOK.cons s_min (TableOK.cons s_nan (TableOK.cons s_max (TableOK.cons f_sig TableOK.nil))))))))) mixed Tryz.func129 (by kernel_rfl) 50) fun ds d h => ?_
 split at h
 ·rename_i o w a b
  cases h
  refine (nf_two _ _ _ _ _ _ _ _ _ _ _ _ _ _ _ _ o w a b).trans ?_
  cases hm : maW w [a, b]
  ·unfold ftwV ftwE
   rw [hm]; rfl
  ·obtain ⟨ia, ib⟩ := maW2 hm
   have hw := in_ok ia
   rw [ia, ib]
   refine Eq.trans ?_ (okT_tw hm)
   have g32 : w = 32 → ar4 o = true → (ar4 o && inF 32 a && inF 32 b) = true ∧ arW o 32 a b = arW o w a b := fun hw ho => by
    subst hw
    rw [ho, ia, ib]
    exact ⟨rfl, rfl⟩
   have hs : (a &&& ~~~(sigV w) ||| b &&& sigV w) = (a &&& ~~~(sgW w) ||| b &&& sgW w) := by rw [sig_W hw]
   cases na : noW w a <;> cases nb : noW w b
   ·refine opT_eq hw g32 (fun h => ?_) (mn_num hw ia ib na nb) (mn_num hw ia ib na nb) hs (ord_lt ib ia nb na) (ord_lt ia ib na nb)
    subst h; rfl
   ·have hn : (noW w a || noW w b) = true := by rw [na, nb]; rfl
    have hn' : (noW w b || noW w a) = true := by rw [na, nb]; rfl
    refine opT_eq hw g32 (fun h => by subst h; exact ar_nan hn) ?_ ?_ hs (le_nan hn').symm (le_nan hn).symm
    ·rw [ad_lib hw, ite_self]; exact ls_nan hn
    ·rw [ad_lib hw, ite_self]; exact ls_nan hn
   ·have hn : (noW w a || noW w b) = true := by rw [na, nb]; rfl
    have hn' : (noW w b || noW w a) = true := by rw [na, nb]; rfl
    refine opT_eq hw g32 (fun h => by subst h; exact ar_nan hn) ?_ ?_ hs (le_nan hn').symm (le_nan hn).symm
    ·rw [ad_lib hw]; exact ls_nan hn
    ·rw [ad_lib hw]; exact ls_nan hn
   ·have hn : (noW w a || noW w b) = true := by rw [na, nb]; rfl
    have hn' : (noW w b || noW w a) = true := by rw [na, nb]; rfl
    refine opT_eq hw g32 (fun h => by subst h; exact ar_nan hn) ?_ ?_ hs (le_nan hn').symm (le_nan hn).symm
    ·rw [hw]; exact ls_nan hn
    ·rw [hw]; exact ls_nan hn
 ·cases h
end Go.L23F

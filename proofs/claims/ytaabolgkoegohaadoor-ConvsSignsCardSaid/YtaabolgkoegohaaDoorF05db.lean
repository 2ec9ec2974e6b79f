/-
  Part of the proof; what its functions and lemmas say stands in the text.
-/
import Derived.Test.YtaabolgkoegohaaDoorC05dA
import Derived.Test.YtaabolgkoegohaaDoorFlB
set_option linter.unusedSimpArgs false
set_option linter.unusedVariables false
/-!
Chapter 04: widths, a float's worth, comparisons.
-/
namespace Go.L05dF
open Go.L05d Go.Ev Go.Proofs Go.RowKit Go.Wh Go.Fl

/-! may it be? -/
def annF : Nat → List Nat := fun | 4 => [0, 13, 14, 15] | _ => []
noncomputable def fmayG (M : Int → List (BitVec 64) → Bool) : Ev.Spec := joined fun | [.i .i64 w, .sl64 [a]] => some (.bool (M w [a])) | [.i .i64 w, .sl64 [a, b]] => some (.bool (M w [a, b])) | _ => none
def f1T (w32 : Bool) (c : Bool) (x : Option D) : Option D := if w32 = true then if (!c) = true then some (.bool false) else x else x
theorem nf_fm1 (w : Int) (a : BitVec 64) : ex [] annF Tryd.f24 [.i .i64 w, .sl64 [a]] some =
  if (!(w == 32)) = true then if (!(w == 64)) = true then some (.bool false) else f1T (w == 32) (a >>> 32 == 0#64) (some (.bool true)) else f1T (w == 32) (a >>> 32 == 0#64) (some (.bool true)) := by kernel_rfl
theorem nf_fm2 (w : Int) (a b : BitVec 64) : ex [] annF Tryd.f24 [.i .i64 w, .sl64 [a, b]] some =
  if (!(w == 32)) = true then if (!(w == 64)) = true then some (.bool false) else f1T (w == 32) (a >>> 32 == 0#64) (f1T (w == 32) (b >>> 32 == 0#64) (some (.bool true))) else f1T (w == 32) (a >>> 32 == 0#64) (f1T (w == 32) (b >>> 32 == 0#64) (some (.bool true))) := by kernel_rfl
theorem f_may : Snd 24 (fmayG maW) := by
  refine Sound.join (execFn_sound (ann := annF) TableOK.nil mixed Tryd.func24 (by kernel_rfl) 50) fun ds d h => ?_
  split at h
  · rename_i w a
    cases h
    refine (nf_fm1 w a).trans ?_
    unfold maW wOK fiW f1T
    simp only [List.all_cons, List.all_nil, Bool.and_true]
    have h := w3264 w
    generalize (a >>> 32 == 0#64) = c
    revert h
    generalize (w == 32) = x1
    generalize (w == 64) = x2
    intro h
    cases x1 <;> cases x2 <;> cases c <;> first | rfl | (exact absurd (h rfl) (by decide))
  · rename_i w a b
    cases h
    refine (nf_fm2 w a b).trans ?_
    unfold maW wOK fiW f1T
    simp only [List.all_cons, List.all_nil, Bool.and_true]
    have h := w3264 w
    generalize (a >>> 32 == 0#64) = c
    generalize (b >>> 32 == 0#64) = c2
    revert h
    generalize (w == 32) = x1
    generalize (w == 64) = x2
    intro h
    cases x1 <;> cases x2 <;> cases c <;> cases c2 <;> first | rfl | (exact absurd (h rfl) (by decide))
  · cases h

/-! a float's worth -/
def f2fT (x : Ieee.Datum) : Option D := match x with
  | .nan _ _ => some (.nan .f64)
  | .infinity g => some (.f .f64 (FloatKind.f64.encode (.infinity g)))
  | .number g m e => if (FloatKind.f64.decode (FloatKind.f64.encode (.number g m e))).isInfinity then some (.xf .f64 (fun x => x < 2 ^ 32)) else some (.f .f64 (FloatKind.f64.encode (.number g m e)))
noncomputable def ofG (C N : Int → BitVec 64 → Bool) (X : Int → BitVec 64 → Nat) : Ev.Spec := gtwo fun | [.i .i64 w, .u64 a] => some (C w a, N w a, .nan .f64, .f .f64 (X w a)) | _ => none
theorem nf_fof32 (a : BitVec 64) : ex [(30, to32S), (31, to64S)] (fun _ => []) Tryd.f25 [.i .i64 32, .u64 a] some = f2fT (Ieee.single.read (BitVec.setWidth 32 a).toNat) := by kernel_rfl
theorem nf_fof64 (a : BitVec 64) : ex [(30, to32S), (31, to64S)] (fun _ => []) Tryd.f25 [.i .i64 64, .u64 a] some = some (.f .f64 a.toNat) := by kernel_rfl
theorem S_fof : Sound Tryd.prog G0 25 (ex [(30, to32S), (31, to64S)] (fun _ => []) Tryd.f25) := execFn_sound (ann := fun _ => []) (TableOK.cons x_to32 (TableOK.cons x_to64 TableOK.nil)) mixed Tryd.func25 (by kernel_rfl) 50
theorem lo32 {a : BitVec 64} (h : a.toNat < 4294967296) : (BitVec.setWidth 32 a).toNat = a.toNat := by
  rw [BitVec.toNat_setWidth, Nat.mod_eq_of_lt (by omega)]
theorem no_inf {x : Nat} (h : fin Ieee.double x = true) : (FloatKind.f64.decode x).isInfinity = false := by
  show (Ieee.double.read x).isInfinity = false
  rw [read_fin h]; rfl
theorem f_of : Snd 25 (ofG inF noW wdW) := by
  refine Sound.of_gtwo fun ds b d e hd => ?_
  split at hd
  · rename_i w a
    simp only [Option.some.injEq, Prod.mk.injEq] at hd
    obtain ⟨hi, rfl, rfl, rfl⟩ := hd
    rcases inF_cases hi with ⟨rfl, ha⟩ | rfl
    · cases hn : noW 32 a
      · rw [if_neg (by decide)]
        refine S_fof.pt ((nf_fof32 a).trans ?_)
        rw [lo32 ha]
        have hn' : isN Ieee.single a.toNat = false := hn
        show _ = some (D.f .f64 (lng a.toNat))
        unfold lng
        cases h1 : fin Ieee.single a.toNat
        · have e := read_infty two_s h1 hn'
          rw [e]
          rfl
        · have e := read_fin h1
          obtain ⟨a1, _, _⟩ := longer h1
          rw [e] at a1 ⊢
          show (if (FloatKind.f64.decode (FloatKind.f64.encode _)).isInfinity = true then _ else _) = _
          have := no_inf a1
          rw [show FloatKind.f64.encode (.number (ng Ieee.single a.toNat) (mg Ieee.single a.toNat) (pl Ieee.single a.toNat)) = Ieee.double.write (.number (ng Ieee.single a.toNat) (mg Ieee.single a.toNat) (pl Ieee.single a.toNat)) from rfl, this]
          rfl
      · rw [if_pos rfl]
        refine S_fof.pt ((nf_fof32 a).trans ?_)
        rw [lo32 ha]
        obtain ⟨u, hu⟩ := read_none two_s (x := a.toNat) hn
        rw [hu]; rfl
    · cases hn : noW 64 a
      · rw [if_neg (by decide)]
        exact S_fof.pt (nf_fof64 a)
      · rw [if_pos rfl]
        refine Pt.weak (S_fof.pt (nf_fof64 a)) fun own w v hv => ?_
        simp only [lies] at hv ⊢
        refine ⟨_, hv, ?_, a.isLt⟩
        show (Ieee.double.read a.toNat).isNaN = true
        rw [isN_iff two_d]
        exact hn
  · cases hd

/-! is it no number? -/
noncomputable def nonG (V : Int → BitVec 64 → Bool) (E : Int → BitVec 64 → Int) : Ev.Spec := joined fun | [.i .i64 w, .u64 a] => some (.tup [.bool (V w a), .i .i64 (E w a)]) | _ => none
def nonV (w : Int) (a : BitVec 64) : Bool := inF w a && noW w a
def nonE (w : Int) (a : BitVec 64) : Int := errW (inF w a)

/-! comparisons -/
abbrev CV := BitVec 8 → Int → BitVec 64 → BitVec 64 → Bool
abbrev CE := BitVec 8 → Int → BitVec 64 → BitVec 64 → Int
noncomputable def thanG (V : CV) (E : CE) : Ev.Spec := joined fun | [.u8 o, .i .i64 w, .u64 a, .u64 b] => some (.tup [.bool (V o w a b), .i .i64 (E o w a b)]) | _ => none
theorem than_ok {o : BitVec 8} {w : Int} {a b : BitVec 64} (hm : maW w [a, b] = true) : some (D.tup [.bool (fcmV leW eqW o w a b), .i .i64 (thE o)]) = some (D.tup [.bool (fthV o w a b), .i .i64 (fthE o w a b)]) := by
  unfold fthV fthE
  rw [hm, Bool.true_and]; rfl
theorem nf_fthan (M : Int → List (BitVec 64) → Bool) (C N : Int → BitVec 64 → Bool) (X : Int → BitVec 64 → Nat) (o : BitVec 8) (w : Int) (a b : BitVec 64) : ex [(24, fmayG M), (25, ofG C N X)] (fun _ => []) Tryd.f11 [.u8 o, .i .i64 w, .u64 a, .u64 b] some =
  if (!M w [a, b]) = true then some (.tup [.bool false, .i .i64 2]) else if C w a = true then if N w a = true then (if C w b = true then if N w b = true then thT false false false o else thT false false false o else none)
    else (if C w b = true then if N w b = true then thT false false false o else thT (FloatKind.f64.format.order (X w a) (X w b) == some .eq) (FloatKind.f64.format.order (X w a) (X w b) == some .lt) (FloatKind.f64.format.order (X w a) (X w b) == some .gt) o else none) else none := by kernel_rfl
theorem f_than : Snd 11 (thanG fthV fthE) := by
  refine Sound.join (execFn_sound (ann := fun _ => []) (TableOK.cons f_may (TableOK.cons f_of TableOK.nil)) mixed Tryd.func11 (by kernel_rfl) 50) fun ds d h => ?_
  split at h
  · rename_i o w a b
    cases h
    refine (nf_fthan _ _ _ _ o w a b).trans ?_
    cases hm : maW w [a, b]
    · unfold fthV fthE
      rw [hm]; rfl
    · obtain ⟨ia, ib⟩ := maW2 hm
      rw [ia, ib]
      refine Eq.trans ?_ (than_ok hm)
      have none3 : (noW w a || noW w b) = true → thT false false false o = some (.tup [.bool (fcmV leW eqW o w a b), .i .i64 (thE o)]) := fun hn => by
        refine thT_eq o w a b ?_ ?_ ?_
        · unfold eqW; revert hn; cases noW w a <;> cases noW w b <;> intro hn <;> first | rfl | cases hn
        · unfold leW; revert hn; cases noW w a <;> cases noW w b <;> intro hn <;> first | rfl | cases hn
        · unfold leW; revert hn; cases noW w a <;> cases noW w b <;> intro hn <;> first | rfl | cases hn
      cases na : noW w a <;> cases nb : noW w b
      · exact thT_eq o w a b (ord_eq ia ib na nb) (ord_lt ia ib na nb) (ord_gt ia ib na nb)
      · exact none3 (by rw [na, nb]; rfl)
      · exact none3 (by rw [na, nb]; rfl)
      · exact none3 (by rw [na, nb]; rfl)
  · cases h
end Go.L05dF

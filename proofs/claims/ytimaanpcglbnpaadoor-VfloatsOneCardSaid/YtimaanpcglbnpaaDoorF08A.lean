/-
  Part of the proof; what its functions and lemmas say stands in the text.
-/
import Derived.Test.YtimaanpcglbnpaaDoorS08A
import Derived.Test.YtimaanpcglbnpaaDoorFlB
set_option linter.unusedSimpArgs false
set_option linter.unusedVariables false
/-!
Chapter 04: what stands for all.
-/
namespace Go.L08F
open Go.Ev Go.Proofs Go.RowKit Go.Fl
open Go.L08

theorem x_of64 : Snd 53 of64S := of64_ok ⟨⟨Tryd.f53, Tryd.func53, by kernel_rfl, by kernel_rfl, by kernel_rfl, by kernel_rfl⟩⟩
theorem x_of32 : Snd 52 of32S := of32_ok ⟨⟨Tryd.f52, Tryd.func52, by kernel_rfl, by kernel_rfl, by kernel_rfl, by kernel_rfl⟩⟩
theorem x_to32 : Snd 96 to32S := to32_ok ⟨⟨Tryd.f96, Tryd.func96, by kernel_rfl, by kernel_rfl, by kernel_rfl, by kernel_rfl⟩⟩
theorem x_to64 : Snd 97 to64S := to64_ok ⟨⟨Tryd.f97, Tryd.func97, by kernel_rfl, by kernel_rfl, by kernel_rfl, by kernel_rfl⟩⟩
end Go.L08F
/-!
Chapter 04: widths, a float's worth, comparisons.
-/
namespace Go.L08F
open Go.Ev Go.Proofs Go.RowKit Go.Wh Go.Fl
open Go.L08

/-! may it be? -/
def annF : Nat → List Nat := fun | 4 => [0, 13, 14, 15] | _ => []
noncomputable def fmayG (M : Int → List (BitVec 64) → Bool) : Ev.Spec := joined fun | [.i .i64 w, .sl64 [a]] => some (.bool (M w [a])) | [.i .i64 w, .sl64 [a, b]] => some (.bool (M w [a, b])) | _ => none
def f1T (w32 : Bool) (c : Bool) (x : Option D) : Option D := if w32 = true then if (!c) = true then some (.bool false) else x else x
theorem nf_fm1 (w : Int) (a : BitVec 64) : ex [] annF Tryd.f58 [.i .i64 w, .sl64 [a]] some =
  if (!(w == 32)) = true then if (!(w == 64)) = true then some (.bool false) else f1T (w == 32) (a >>> 32 == 0#64) (some (.bool true)) else f1T (w == 32) (a >>> 32 == 0#64) (some (.bool true)) := by kernel_rfl
theorem nf_fm2 (w : Int) (a b : BitVec 64) : ex [] annF Tryd.f58 [.i .i64 w, .sl64 [a, b]] some =
  if (!(w == 32)) = true then if (!(w == 64)) = true then some (.bool false) else f1T (w == 32) (a >>> 32 == 0#64) (f1T (w == 32) (b >>> 32 == 0#64) (some (.bool true))) else f1T (w == 32) (a >>> 32 == 0#64) (f1T (w == 32) (b >>> 32 == 0#64) (some (.bool true))) := by kernel_rfl
theorem f_may : Snd 58 (fmayG maW) := by
  refine Sound.join (execFn_sound (ann := annF) TableOK.nil mixed Tryd.func58 (by kernel_rfl) 50) fun ds d h => ?_
  split at h
  · rename_i w a
    cases h
    refine (nf_fm1 w a).trans ?_
    unfold maW wOK fiW f1T
    simp only [List.all_cons, List.all_nil, Bool.and_true]
    have h := w3264 w
    generalize (a >>> 32 == 0#64) = c
    revert h
    generalize (w == 32) = x1
    generalize (w == 64) = x2
    intro h
    cases x1 <;> cases x2 <;> cases c <;> first | rfl | (exact absurd (h rfl) (by decide))
  · rename_i w a b
    cases h
    refine (nf_fm2 w a b).trans ?_
    unfold maW wOK fiW f1T
    simp only [List.all_cons, List.all_nil, Bool.and_true]
    have h := w3264 w
    generalize (a >>> 32 == 0#64) = c
    generalize (b >>> 32 == 0#64) = c2
    revert h
    generalize (w == 32) = x1
    generalize (w == 64) = x2
    intro h
    cases x1 <;> cases x2 <;> cases c <;> cases c2 <;> first | rfl | (exact absurd (h rfl) (by decide))
  · cases h

/-! a float's worth -/
def f2fT (x : Ieee.Datum) : Option D := match x with
  | .nan _ _ => some (.nan .f64)
  | .infinity g => some (.f .f64 (FloatKind.f64.encode (.infinity g)))
  | .number g m e => if (FloatKind.f64.decode (FloatKind.f64.encode (.number g m e))).isInfinity then some (.xf .f64 (fun x => x < 2 ^ 32)) else some (.f .f64 (FloatKind.f64.encode (.number g m e)))
noncomputable def ofG (C N : Int → BitVec 64 → Bool) (X : Int → BitVec 64 → Nat) : Ev.Spec := gtwo fun | [.i .i64 w, .u64 a] => some (C w a, N w a, .nan .f64, .f .f64 (X w a)) | _ => none
theorem nf_fof32 (a : BitVec 64) : ex [(96, to32S), (97, to64S)] (fun _ => []) Tryd.f59 [.i .i64 32, .u64 a] some = f2fT (Ieee.single.read (BitVec.setWidth 32 a).toNat) := by kernel_rfl
theorem nf_fof64 (a : BitVec 64) : ex [(96, to32S), (97, to64S)] (fun _ => []) Tryd.f59 [.i .i64 64, .u64 a] some = some (.f .f64 a.toNat) := by kernel_rfl
theorem S_fof : Sound Tryd.prog G0 59 (ex [(96, to32S), (97, to64S)] (fun _ => []) Tryd.f59) := execFn_sound (ann := fun _ => []) (TableOK.cons x_to32 (TableOK.cons x_to64 TableOK.nil)) mixed Tryd.func59 (by kernel_rfl) 50
theorem lo32 {a : BitVec 64} (h : a.toNat < 4294967296) : (BitVec.setWidth 32 a).toNat = a.toNat := by
  rw [BitVec.toNat_setWidth, Nat.mod_eq_of_lt (by omega)]
theorem no_inf {x : Nat} (h : fin Ieee.double x = true) : (FloatKind.f64.decode x).isInfinity = false := by
  show (Ieee.double.read x).isInfinity = false
  rw [read_fin h]; rfl
theorem f_of : Snd 59 (ofG inF noW wdW) := by
  refine Sound.of_gtwo fun ds b d e hd => ?_
  split at hd
  · rename_i w a
    simp only [Option.some.injEq, Prod.mk.injEq] at hd
    obtain ⟨hi, rfl, rfl, rfl⟩ := hd
    rcases inF_cases hi with ⟨rfl, ha⟩ | rfl
    · cases hn : noW 32 a
      · rw [if_neg (by decide)]
        refine S_fof.pt ((nf_fof32 a).trans ?_)
        rw [lo32 ha]
        have hn' : isN Ieee.single a.toNat = false := hn
        show _ = some (D.f .f64 (lng a.toNat))
        unfold lng
        cases h1 : fin Ieee.single a.toNat
        · have e := read_infty two_s h1 hn'
          rw [e]
          rfl
        · have e := read_fin h1
          obtain ⟨a1, _, _⟩ := longer h1
          rw [e] at a1 ⊢
          show (if (FloatKind.f64.decode (FloatKind.f64.encode _)).isInfinity = true then _ else _) = _
          have := no_inf a1
          rw [show FloatKind.f64.encode (.number (ng Ieee.single a.toNat) (mg Ieee.single a.toNat) (pl Ieee.single a.toNat)) = Ieee.double.write (.number (ng Ieee.single a.toNat) (mg Ieee.single a.toNat) (pl Ieee.single a.toNat)) from rfl, this]
          rfl
      · rw [if_pos rfl]
        refine S_fof.pt ((nf_fof32 a).trans ?_)
        rw [lo32 ha]
        obtain ⟨u, hu⟩ := read_none two_s (x := a.toNat) hn
        rw [hu]; rfl
    · cases hn : noW 64 a
      · rw [if_neg (by decide)]
        exact S_fof.pt (nf_fof64 a)
      · rw [if_pos rfl]
        refine Pt.weak (S_fof.pt (nf_fof64 a)) fun own w v hv => ?_
        simp only [lies] at hv ⊢
        refine ⟨_, hv, ?_, a.isLt⟩
        show (Ieee.double.read a.toNat).isNaN = true
        rw [isN_iff two_d]
        exact hn
  · cases hd

/-! is it no number? -/
noncomputable def nonG (V : Int → BitVec 64 → Bool) (E : Int → BitVec 64 → Int) : Ev.Spec := joined fun | [.i .i64 w, .u64 a] => some (.tup [.bool (V w a), .i .i64 (E w a)]) | _ => none
def nonV (w : Int) (a : BitVec 64) : Bool := inF w a && noW w a
def nonE (w : Int) (a : BitVec 64) : Int := errW (inF w a)
/-! comparisons -/
abbrev CV := BitVec 8 → Int → BitVec 64 → BitVec 64 → Bool
abbrev CE := BitVec 8 → Int → BitVec 64 → BitVec 64 → Int
noncomputable def thanG (V : CV) (E : CE) : Ev.Spec := joined fun | [.u8 o, .i .i64 w, .u64 a, .u64 b] => some (.tup [.bool (V o w a b), .i .i64 (E o w a b)]) | _ => none
theorem than_ok {o : BitVec 8} {w : Int} {a b : BitVec 64} (hm : maW w [a, b] = true) : some (D.tup [.bool (fcmV leW eqW o w a b), .i .i64 (thE o)]) = some (D.tup [.bool (fthV o w a b), .i .i64 (fthE o w a b)]) := by
  unfold fthV fthE
  rw [hm, Bool.true_and]; rfl
theorem nf_fthan (M : Int → List (BitVec 64) → Bool) (C N : Int → BitVec 64 → Bool) (X : Int → BitVec 64 → Nat) (o : BitVec 8) (w : Int) (a b : BitVec 64) : ex [(58, fmayG M), (59, ofG C N X)] (fun _ => []) Tryd.f36 [.u8 o, .i .i64 w, .u64 a, .u64 b] some =
  if (!M w [a, b]) = true then some (.tup [.bool false, .i .i64 2]) else if C w a = true then if N w a = true then (if C w b = true then if N w b = true then thT false false false o else thT false false false o else none)
    else (if C w b = true then if N w b = true then thT false false false o else thT (FloatKind.f64.format.order (X w a) (X w b) == some .eq) (FloatKind.f64.format.order (X w a) (X w b) == some .lt) (FloatKind.f64.format.order (X w a) (X w b) == some .gt) o else none) else none := by kernel_rfl
theorem f_than : Snd 36 (thanG fthV fthE) := by
  refine Sound.join (execFn_sound (ann := fun _ => []) (TableOK.cons f_may (TableOK.cons f_of TableOK.nil)) mixed Tryd.func36 (by kernel_rfl) 50) fun ds d h => ?_
  split at h
  · rename_i o w a b
    cases h
    refine (nf_fthan _ _ _ _ o w a b).trans ?_
    cases hm : maW w [a, b]
    · unfold fthV fthE
      rw [hm]; rfl
    · obtain ⟨ia, ib⟩ := maW2 hm
      rw [ia, ib]
      refine Eq.trans ?_ (than_ok hm)
      have none3 : (noW w a || noW w b) = true → thT false false false o = some (.tup [.bool (fcmV leW eqW o w a b), .i .i64 (thE o)]) := fun hn => by
        refine thT_eq o w a b ?_ ?_ ?_
        · unfold eqW; revert hn; cases noW w a <;> cases noW w b <;> intro hn <;> first | rfl | cases hn
        · unfold leW; revert hn; cases noW w a <;> cases noW w b <;> intro hn <;> first | rfl | cases hn
        · unfold leW; revert hn; cases noW w a <;> cases noW w b <;> intro hn <;> first | rfl | cases hn
      cases na : noW w a <;> cases nb : noW w b
      · exact thT_eq o w a b (ord_eq ia ib na nb) (ord_lt ia ib na nb) (ord_gt ia ib na nb)
      · exact none3 (by rw [na, nb]; rfl)
      · exact none3 (by rw [na, nb]; rfl)
      · exact none3 (by rw [na, nb]; rfl)
  · cases h

/-! the document's -/
noncomputable abbrev qSgn : Ev.Spec := ex [] (fun _ => []) Tryd.f72
theorem q_sgn : Snd 72 qSgn := execFn_sound (ann := fun _ => []) TableOK.nil mixed Tryd.func72 (by kernel_rfl) 50
noncomputable abbrev qEnd : Ev.Spec := ex [] (fun _ => []) Tryd.f136
theorem q_end : Snd 136 qEnd := execFn_sound (ann := fun _ => []) TableOK.nil mixed Tryd.func136 (by kernel_rfl) 50
noncomputable def isS (F : Int → BitVec 64 → Bool) : Ev.Spec := guarded fun | [.i .i64 w, .u64 a] => some (inF w a, .bool (F w a)) | _ => none
theorem nf_qis32 (a : BitVec 64) : ex [(72, qSgn), (136, qEnd)] (fun _ => []) Tryd.f106 [.i .i64 32, .u64 a] some = some (.bool (decide (enW 32 < a &&& ~~~(sgW 32)))) := by kernel_rfl
theorem nf_qis64 (a : BitVec 64) : ex [(72, qSgn), (136, qEnd)] (fun _ => []) Tryd.f106 [.i .i64 64, .u64 a] some = some (.bool (decide (enW 64 < a &&& ~~~(sgW 64)))) := by kernel_rfl
theorem q_is : Snd 106 (isS noW) := by
  refine Sound.guard (execFn_sound (ann := fun _ => []) (TableOK.cons q_sgn (TableOK.cons q_end TableOK.nil)) mixed Tryd.func106 (by kernel_rfl) 50) fun ds d h => ?_
  split at h
  · rename_i w a
    simp only [Option.some.injEq, Prod.mk.injEq] at h
    obtain ⟨hi, rfl⟩ := h
    rw [← is_no hi]
    rcases inF_cases hi with ⟨rfl, _⟩ | rfl
    · exact nf_qis32 a
    · exact nf_qis64 a
  · cases h
noncomputable def plcS (L : Int → BitVec 64 → Int) : Ev.Spec := guarded fun | [.i .i64 w, .u64 a] => some (inF w a, .i .i64 (L w a)) | _ => none
def plcT (s : BitVec 64) (a : BitVec 64) : Option D := if (a &&& s == 0#64) = true then some (.i .i64 (sOfU .i64 a)) else some (.i .i64 (IntKind.i64.wrap (0 - sOfU .i64 (a &&& ~~~s))))
theorem nf_plc32 (a : BitVec 64) : ex [(72, qSgn)] (fun _ => []) Tryd.f108 [.i .i64 32, .u64 a] some = plcT (sgW 32) a := by kernel_rfl
theorem nf_plc64 (a : BitVec 64) : ex [(72, qSgn)] (fun _ => []) Tryd.f108 [.i .i64 64, .u64 a] some = plcT (sgW 64) a := by kernel_rfl
theorem q_plc : Snd 108 (plcS keW) := by
  refine Sound.guard (execFn_sound (ann := fun _ => []) (TableOK.cons q_sgn TableOK.nil) mixed Tryd.func108 (by kernel_rfl) 50) fun ds d h => ?_
  split at h
  · rename_i w a
    simp only [Option.some.injEq, Prod.mk.injEq] at h
    obtain ⟨hi, rfl⟩ := h
    have e : plcT (sgW w) a = some (.i .i64 (keW w a)) := by
      rw [← place_key hi]
      unfold plcT
      split <;> rfl
    rcases inF_cases hi with ⟨rfl, _⟩ | rfl
    · exact (nf_plc32 a).trans e
    · exact (nf_plc64 a).trans e
  · cases h
noncomputable def lesS (L : Int → BitVec 64 → BitVec 64 → Bool) : Ev.Spec := guarded fun | [.i .i64 w, .u64 a, .u64 b] => some (inF w a && inF w b, .bool (L w a b)) | _ => none
def lesT (c : Bool) (na nb : Bool) (ia ib : Bool) : Option D := if ia = true then if (!na) = true then if ib = true then if (!nb) = true then if ia = true then if ib = true then some (.bool c) else none else none else some (.bool false) else none else some (.bool false) else none
theorem nf_les (F : Int → BitVec 64 → Bool) (L : Int → BitVec 64 → Int) (w : Int) (a b : BitVec 64) : ex [(106, isS F), (108, plcS L)] (fun _ => []) Tryd.f73 [.i .i64 w, .u64 a, .u64 b] some = lesT (decide (L w a < L w b)) (F w a) (F w b) (inF w a) (inF w b) := by kernel_rfl
theorem nf_sam (F : Int → BitVec 64 → Bool) (L : Int → BitVec 64 → Int) (w : Int) (a b : BitVec 64) : ex [(106, isS F), (108, plcS L)] (fun _ => []) Tryd.f75 [.i .i64 w, .u64 a, .u64 b] some = lesT (L w a == L w b) (F w a) (F w b) (inF w a) (inF w b) := by kernel_rfl
theorem q_less : Snd 73 (lesS leW) := by
  refine Sound.guard (execFn_sound (ann := fun _ => []) (TableOK.cons q_is (TableOK.cons q_plc TableOK.nil)) mixed Tryd.func73 (by kernel_rfl) 50) fun ds d h => ?_
  split at h
  · rename_i w a b
    simp only [Option.some.injEq, Prod.mk.injEq, Bool.and_eq_true] at h
    obtain ⟨⟨ha, hb⟩, rfl⟩ := h
    refine (nf_les _ _ w a b).trans ?_
    rw [ha, hb]
    unfold leW lesT
    cases noW w a <;> cases noW w b <;> rfl
  · cases h
theorem q_same : Snd 75 (lesS eqW) := by
  refine Sound.guard (execFn_sound (ann := fun _ => []) (TableOK.cons q_is (TableOK.cons q_plc TableOK.nil)) mixed Tryd.func75 (by kernel_rfl) 50) fun ds d h => ?_
  split at h
  · rename_i w a b
    simp only [Option.some.injEq, Prod.mk.injEq, Bool.and_eq_true] at h
    obtain ⟨⟨ha, hb⟩, rfl⟩ := h
    refine (nf_sam _ _ w a b).trans ?_
    rw [ha, hb]
    unfold eqW lesT
    cases noW w a <;> cases noW w b <;> rfl
  · cases h
noncomputable def wiG (W : Int → Bool) : Ev.Spec := joined fun | [.i .i64 w] => some (.bool (W w)) | _ => none
theorem nf_wi (w : Int) : ex [] (fun _ => []) Tryd.f30 [.i .i64 w] some = if (w == 32) = false then some (.bool (w == 64)) else some (.bool true) := by kernel_rfl
theorem q_W : Snd 30 (wiG wOK) := by
  refine Sound.join (execFn_sound (ann := fun _ => []) TableOK.nil mixed Tryd.func30 (by kernel_rfl) 50) fun ds d h => ?_
  split at h
  · rename_i w
    cases h
    refine (nf_wi w).trans ?_
    unfold wOK
    cases (w == 32) <;> rfl
  · cases h
noncomputable def fiG (F : Int → BitVec 64 → Bool) : Ev.Spec := joined fun | [.i .i64 w, .u64 a] => some (.bool (F w a)) | _ => none
theorem nf_fi (w : Int) (a : BitVec 64) : ex [] (fun _ => []) Tryd.f68 [.i .i64 w, .u64 a] some = if (w == 64) = false then some (.bool (decide (a ≤ BitVec.ofInt 64 4294967295))) else some (.bool true) := by kernel_rfl
theorem q_F : Snd 68 (fiG fiW) := by
  refine Sound.join (execFn_sound (ann := fun _ => []) TableOK.nil mixed Tryd.func68 (by kernel_rfl) 50) fun ds d h => ?_
  split at h
  · rename_i w a
    cases h
    refine (nf_fi w a).trans ?_
    have e : decide (a ≤ BitVec.ofInt 64 4294967295) = (a >>> 32 == 0#64) := by
      rw [Bool.eq_iff_iff, decide_eq_true_eq, beq_iff_eq, BitVec.le_def]
      have : (BitVec.ofInt 64 4294967295).toNat = 4294967295 := rfl
      rw [this]
      constructor
      · intro h
        apply BitVec.eq_of_toNat_eq
        rw [BitVec.toNat_ushiftRight, Nat.shiftRight_eq_div_pow]
        show _ = 0
        omega
      · intro h
        have h5 := congrArg BitVec.toNat h
        rw [BitVec.toNat_ushiftRight, Nat.shiftRight_eq_div_pow] at h5
        have : (0#64 : BitVec 64).toNat = 0 := rfl
        omega
    rw [e]
    unfold fiW
    cases (w == 64) <;> rfl
  · cases h
def rtT (W : Bool) (Fa Fb : Bool) (x e : Option D) : Option D := if (!W) = false then if (!Fa) = false then if (!Fb) = true then e else x else e else e
def rthT (o : BitVec 8) (ga gb : Bool) (s l g : Bool) : Option D :=
  if (o == 17#8) = true then (if gb = true then some (.tup [.bool s, .i .i64 0]) else none) else if (o == 18#8) = true then (if gb = true then some (.tup [.bool (!s), .i .i64 0]) else none) else if (o == 19#8) = true then (if gb = true then some (.tup [.bool l, .i .i64 0]) else none)
  else if (o == 20#8) = true then (if ga = true then some (.tup [.bool g, .i .i64 0]) else none) else if (o == 21#8) = true then (if gb = true then (if l = false then (if gb = true then some (.tup [.bool s, .i .i64 0]) else none) else some (.tup [.bool true, .i .i64 0])) else none)
  else if (o == 22#8) = true then (if ga = true then (if g = false then (if gb = true then some (.tup [.bool s, .i .i64 0]) else none) else some (.tup [.bool true, .i .i64 0])) else none) else some (.tup [.bool false, .i .i64 2])
theorem nf_rthan (W : Int → Bool) (F : Int → BitVec 64 → Bool) (L S : Int → BitVec 64 → BitVec 64 → Bool) (o : BitVec 8) (w : Int) (a b : BitVec 64) : ex [(30, wiG W), (68, fiG F), (73, lesS L), (75, lesS S)] (fun _ => []) Tryd.f37 [.u8 o, .i .i64 w, .u64 a, .u64 b] some =
  rtT (W w) (F w a) (F w b) (rthT o (inF w b && inF w a) (inF w a && inF w b) (S w a b) (L w a b) (L w b a)) (some (.tup [.bool false, .i .i64 2])) := by kernel_rfl
theorem rthT_eq (o : BitVec 8) (w : Int) (a b : BitVec 64) : rthT o true true (eqW w a b) (leW w a b) (leW w b a) = some (.tup [.bool (fcmV leW eqW o w a b), .i .i64 (thE o)]) := by
  unfold rthT fcmV thE
  generalize (o == 17#8) = c1
  generalize (o == 18#8) = c2
  generalize (o == 19#8) = c3
  generalize (o == 20#8) = c4
  generalize (o == 21#8) = c5
  generalize (o == 22#8) = c6
  cases c1 <;> first | rfl | skip
  cases c2 <;> first | rfl | skip
  cases c3 <;> first | rfl | skip
  cases c4 <;> first | rfl | skip
  cases c5
  · cases c6
    · rfl
    · cases leW w b a <;> rfl
  · cases leW w a b <;> rfl
theorem f_rthan : Snd 37 (thanG fthV fthE) := by
  refine Sound.join (execFn_sound (ann := fun _ => []) (TableOK.cons q_W (TableOK.cons q_F (TableOK.cons q_less (TableOK.cons q_same TableOK.nil)))) mixed Tryd.func37 (by kernel_rfl) 50) fun ds d h => ?_
  split at h
  · rename_i o w a b
    cases h
    refine (nf_rthan _ _ _ _ o w a b).trans ?_
    cases hm : maW w [a, b]
    · unfold fthV fthE
      rw [hm]
      unfold maW at hm
      simp only [List.all_cons, List.all_nil, Bool.and_true] at hm
      unfold rtT
      revert hm
      cases wOK w <;> cases fiW w a <;> cases fiW w b <;> intro hm <;> first | rfl | cases hm
    · obtain ⟨ia, ib⟩ := maW2 hm
      rw [ia, ib]
      unfold maW at hm
      simp only [List.all_cons, List.all_nil, Bool.and_true, Bool.and_eq_true] at hm
      rw [hm.1, hm.2.1, hm.2.2]
      refine Eq.trans (rthT_eq o w a b) (than_ok ?_)
      unfold maW
      simp only [List.all_cons, List.all_nil, Bool.and_true]
      rw [hm.1, hm.2.1, hm.2.2]; rfl
  · cases h
end Go.L08F

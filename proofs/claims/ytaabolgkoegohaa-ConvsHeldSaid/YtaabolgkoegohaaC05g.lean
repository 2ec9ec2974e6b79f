/-
  Part of the proof; what its functions and lemmas say stands in the text.
-/
import Derived.Test.YtaabolgkoegohaaC05f
set_option linter.unusedSimpArgs false
set_option linter.unusedVariables false
/-!
Chapter 05: from one width of floats to the other, by the program; whether it is no number.
-/
namespace Go.L05
open Go.Ev Go.Proofs Go.RowKit Go.Wh Go.Fl

/-! promoted -/
def proV (a : BitVec 64) : BitVec 64 := if isNW 32 a = true then 9221120237041090560#64 else BitVec.ofNat 64 (wideN 32 a)
noncomputable def proS : Ev.Spec := joined fun | [.u64 a] => some (.tup [.u64 (ifF (fitC 32 a) (proV a)), .i .i64 (errF (fitC 32 a))]) | _ => none
theorem fitC32 {a : BitVec 64} (h : fitC 32 a = true) : fitF 32 a = true := by
  unfold fitF
  rw [fit_C (by decide) a, h]; rfl
theorem nf_proE (a : BitVec 64) : ex [(24, ofG (fun _ _ => false) (fun _ _ => 0))] (fun _ => []) Try.f10 [.u64 a] some = if (!(a >>> 32 == 0#64)) = true then some (.tup [.u64 0#64, .i .i64 2]) else none := by kernel_rfl
theorem ofE : Snd 24 (ofG (fun _ _ => false) (fun _ _ => 0)) := fun ds K r h => by
  unfold ofG guarded at h
  dsimp only at h
  split at h
  · rename_i b d hd
    split at hd
    · cases hd; simp at h
    · cases hd
  · cases h
theorem nf_proY (C : Int → BitVec 64 → Bool) (X : Int → BitVec 64 → Nat) (a : BitVec 64) : ex [(24, ofG C X), (25, of64S)] (fun _ => []) Try.f10 [.u64 a] some =
  if (!(a >>> 32 == 0#64)) = true then some (.tup [.u64 0#64, .i .i64 2]) else if C 32 a = true then if (!(FloatKind.f64.format.order (X 32 a) (X 32 a) == some .eq)) = true then some (.tup [.u64 9221120237041090560#64, .i .i64 0])
    else if decide (X 32 a < 2 ^ 64) = true then some (.tup [.u64 (BitVec.ofNat 64 (X 32 a)), .i .i64 0]) else none else none := by kernel_rfl
theorem nf_proN (C : Int → BitVec 64 → Bool) (a : BitVec 64) : ex [(24, ofH C)] (fun _ => []) Try.f10 [.u64 a] some =
  if (!(a >>> 32 == 0#64)) = true then some (.tup [.u64 0#64, .i .i64 2]) else if C 32 a = true then some (.tup [.u64 9221120237041090560#64, .i .i64 0]) else none := by kernel_rfl
theorem wide_lt {w : Int} (hw : okC w = true) {a : BitVec 64} (hn : isNW w a = false) : wideN w a < 2 ^ 64 := by
  rcases okC_cases hw with rfl | rfl
  · unfold wideN
    rw [if_pos rfl]
    rcases longer_lt (Ieee.single.read a.toNat) with h | ⟨s, t, h⟩
    · exact h
    · exfalso
      have h2 := isN_iff two_s a.toNat
      rw [h] at h2
      have h3 : isN Ieee.single a.toNat = false := hn
      rw [h3] at h2
      cases h2
  · exact a.isLt
theorem wide_num {w : Int} (hw : okC w = true) {a : BitVec 64} (hn : isNW w a = false) : (FloatKind.f64.format.order (wideN w a) (wideN w a) == some Ordering.eq) = true := by
  have h : isN Ieee.double (wideN w a) = false := (okX_fit (t := 64) hw true hn).2.2.1
  have := order_self (f := Ieee.double) two_d (x := wideN w a)
  rw [h] at this
  exact this
theorem t_Pro : Snd 10 proS := by
  refine Sound.of_pt fun ds d hd => ?_
  split at hd
  · rename_i a
    cases hd
    cases hc : fitC 32 a
    · have hc' : (a >>> 32 == 0#64) = false := hc
      refine (execFn_sound (P := Try.prog) (G := G0) (ann := fun _ => []) (TableOK.cons ofE TableOK.nil) mixed Try.func10 (by kernel_rfl) 50).pt ((nf_proE a).trans ?_)
      rw [hc']; rfl
    · have hc' : (a >>> 32 == 0#64) = true := hc
      have ha := fitC32 hc
      cases hn : isNW 32 a
      · refine (execFn_sound (P := Try.prog) (G := G0) (ann := fun _ => []) (TableOK.cons t_ofY (TableOK.cons x_of64 TableOK.nil)) mixed Try.func10 (by kernel_rfl) 50).pt ((nf_proY (fun w a => okC w && fitF w a && !isNW w a) wideN a).trans ?_)
        rw [hc', ha, hn, wide_num (by decide) hn, decide_eq_true (wide_lt (by decide) hn)]
        unfold proV
        rw [hn]; rfl
      · refine (execFn_sound (P := Try.prog) (G := G0) (ann := fun _ => []) (TableOK.cons t_ofN TableOK.nil) mixed Try.func10 (by kernel_rfl) 50).pt ((nf_proN (fun w a => okC w && fitF w a && isNW w a) a).trans ?_)
        rw [hc', ha, hn]
        unfold proV
        rw [hn]; rfl
  · cases hd

/-! demoted -/
def f2sT (x : Ieee.Datum) (K : D → Option D) : Option D := match x with
  | .nan _ _ => K (.nan .f32)
  | .infinity g => K (.f .f32 (FloatKind.f32.encode (.infinity g)))
  | .number g m e => if (FloatKind.f32.decode (FloatKind.f32.encode (.number g m e))).isInfinity then K (.xf .f32 (fun x => x < 2 ^ 32)) else K (.f .f32 (FloatKind.f32.encode (.number g m e)))
def nanU (k : FloatKind) : Int → Prop := fun m => ∃ n, nanI k n ∧ m = IntKind.u64.wrap n
def anyU : Int → Prop := fun m => ∃ n : Int, (∃ x : Nat, n = (x : Int) ∧ x < 2 ^ 32) ∧ m = IntKind.u64.wrap n
def demK : D → Option D
  | .f .f32 n => if decide (n < 2 ^ 32) = true then some (.tup [.u64 (BitVec.setWidth 64 (BitVec.ofNat 32 n)), .i .i64 0]) else none
  | .nan .f32 => some (.tup [.xi .u64 (nanU .f32), .i .i64 0])
  | .xf .f32 p => some (.tup [.xi .u64 (fun m => ∃ n : Int, (∃ x : Nat, n = (x : Int) ∧ p x) ∧ m = IntKind.u64.wrap n), .i .i64 0])
  | _ => none
theorem nf_dem (a : BitVec 64) : ex [(24, ex [(39, to32S), (40, to64S)] (fun _ => []) Try.f24), (28, of32S)] (fun _ => []) Try.f12 [.u64 a] some =
  if (!(FloatKind.f64.format.order a.toNat a.toNat == some .eq)) = true then some (.tup [.u64 2143289344#64, .i .i64 0]) else f2sT (Ieee.double.read a.toNat) demK := by kernel_rfl
theorem S_dem : Sound Try.prog G0 12 (ex [(24, ex [(39, to32S), (40, to64S)] (fun _ => []) Try.f24), (28, of32S)] (fun _ => []) Try.f12) := execFn_sound (ann := fun _ => []) (TableOK.cons S_of (TableOK.cons x_of32 TableOK.nil)) mixed Try.func12 (by kernel_rfl) 50
theorem dem_nan {a : BitVec 64} (h : isNW 64 a = true) : Pt Try.prog G0 12 [.u64 a] (.tup [.u64 2143289344#64, .i .i64 0]) := by
  refine S_dem.pt ((nf_dem a).trans ?_)
  have : (FloatKind.f64.format.order a.toNat a.toNat == some Ordering.eq) = !isN Ieee.double a.toNat := order_self (f := Ieee.double) two_d
  rw [this, show isN Ieee.double a.toNat = true from h]; rfl
theorem dem_go {a : BitVec 64} (h : isNW 64 a = false) {d : D} (hd : f2sT (Ieee.double.read a.toNat) demK = some d) : Pt Try.prog G0 12 [.u64 a] d := by
  refine S_dem.pt ((nf_dem a).trans ?_)
  have : (FloatKind.f64.format.order a.toNat a.toNat == some Ordering.eq) = !isN Ieee.double a.toNat := order_self (f := Ieee.double) two_d
  rw [this, show isN Ieee.double a.toNat = false from h]
  exact hd
/-- Whatever it is: there is no error. -/
noncomputable def demA : Ev.Spec := joined fun | [.u64 _] => some (.tup [.any, .i .i64 0]) | _ => none
theorem lie_any {own : Option Nat} {w : World} {d : D} {v : Value} (h : lies own w (.tup [d, .i .i64 0]) v) : lies own w (.tup [.any, .i .i64 0]) v := by
  simp only [lies, lie] at h ⊢
  obtain ⟨cs, rfl, v1, t1, rfl, _, h2⟩ := h
  exact ⟨_, rfl, v1, t1, rfl, trivial, h2⟩
theorem t_demA : Snd 12 demA := by
  refine Sound.of_pt fun ds d hd => ?_
  split at hd
  · rename_i a
    cases hd
    cases hn : isNW 64 a
    · have go : ∀ d, f2sT (Ieee.double.read a.toNat) demK = some (.tup [d, .i .i64 0]) → Pt Try.prog G0 12 [.u64 a] (.tup [.any, .i .i64 0]) := fun d h => Pt.weak (dem_go hn h) fun _ _ _ h => lie_any h
      cases hf : fin Ieee.double a.toNat
      · have e := read_infty two_d hf hn
        refine go (.u64 (BitVec.setWidth 64 (BitVec.ofNat 32 (FloatKind.f32.encode (.infinity (ng Ieee.double a.toNat)))))) ?_
        rw [e]
        show demK (.f .f32 (FloatKind.f32.encode (.infinity (ng Ieee.double a.toNat)))) = _
        unfold demK
        refine if_pos (decide_eq_true ?_)
        exact word_lt Ieee.single _ (inf_lt Ieee.single)
      · have e := read_fin hf
        have hlt : FloatKind.f32.encode (.number (ng Ieee.double a.toNat) (mg Ieee.double a.toNat) (pl Ieee.double a.toNat)) < 2 ^ 32 := nearest_lt Ieee.single _ _ _
        by_cases hi : (FloatKind.f32.decode (FloatKind.f32.encode (.number (ng Ieee.double a.toNat) (mg Ieee.double a.toNat) (pl Ieee.double a.toNat)))).isInfinity = true
        · refine go (.xi .u64 (fun m => ∃ n : Int, (∃ x : Nat, n = (x : Int) ∧ x < 2 ^ 32) ∧ m = IntKind.u64.wrap n)) ?_
          rw [e]
          exact if_pos hi
        · refine go (.u64 (BitVec.setWidth 64 (BitVec.ofNat 32 (FloatKind.f32.encode (.number (ng Ieee.double a.toNat) (mg Ieee.double a.toNat) (pl Ieee.double a.toNat)))))) ?_
          rw [e]
          exact (if_neg hi).trans (if_pos (decide_eq_true hlt))
    · exact Pt.weak (dem_nan hn) fun _ _ _ h => lie_any h
  · cases hd

/-! is it no number? -/
def annF : Nat → List Nat := fun | 4 => [0, 13, 14, 15] | _ => []
def mayL (w : Int) (l : List (BitVec 64)) : Bool := okC w && l.all (fitC w)
noncomputable def fmayS : Ev.Spec := joined fun | [.i .i64 w, .sl64 [a]] => some (.bool (mayL w [a])) | [.i .i64 w, .sl64 [a, b]] => some (.bool (mayL w [a, b])) | _ => none
def f1T (w32 : Bool) (c : Bool) (x : Option D) : Option D := if w32 = true then if (!c) = true then some (.bool false) else x else x
theorem nf_fm1 (w : Int) (a : BitVec 64) : ex [] annF Try.f37 [.i .i64 w, .sl64 [a]] some =
  if (!(w == 32)) = true then if (!(w == 64)) = true then some (.bool false) else f1T (w == 32) (a >>> 32 == 0#64) (some (.bool true)) else f1T (w == 32) (a >>> 32 == 0#64) (some (.bool true)) := by kernel_rfl
theorem nf_fm2 (w : Int) (a b : BitVec 64) : ex [] annF Try.f37 [.i .i64 w, .sl64 [a, b]] some =
  if (!(w == 32)) = true then if (!(w == 64)) = true then some (.bool false) else f1T (w == 32) (a >>> 32 == 0#64) (f1T (w == 32) (b >>> 32 == 0#64) (some (.bool true))) else f1T (w == 32) (a >>> 32 == 0#64) (f1T (w == 32) (b >>> 32 == 0#64) (some (.bool true))) := by kernel_rfl
theorem w3264 (w : Int) : (w == 32) = true → (w == 64) = false := by
  intro h
  have : w = 32 := by simpa using h
  subst this; decide
theorem t_fmay : Snd 37 fmayS := by
  refine Sound.join (execFn_sound (ann := annF) TableOK.nil mixed Try.func37 (by kernel_rfl) 50) fun ds d h => ?_
  split at h
  · rename_i w a
    cases h
    refine (nf_fm1 w a).trans ?_
    unfold mayL okC fitC f1T
    simp only [List.all_cons, List.all_nil, Bool.and_true]
    have h := w3264 w
    generalize (a >>> 32 == 0#64) = c
    revert h
    generalize (w == 32) = x1
    generalize (w == 64) = x2
    intro h
    cases x1 <;> cases x2 <;> cases c <;> first | rfl | (exact absurd (h rfl) (by decide))
  · rename_i w a b
    cases h
    refine (nf_fm2 w a b).trans ?_
    unfold mayL okC fitC f1T
    simp only [List.all_cons, List.all_nil, Bool.and_true]
    have h := w3264 w
    generalize (a >>> 32 == 0#64) = c
    generalize (b >>> 32 == 0#64) = c2
    revert h
    generalize (w == 32) = x1
    generalize (w == 64) = x2
    intro h
    cases x1 <;> cases x2 <;> cases c <;> cases c2 <;> first | rfl | (exact absurd (h rfl) (by decide))
  · cases h
theorem nf_fof32 (a : BitVec 64) : ex [(39, to32S), (40, to64S)] (fun _ => []) Try.f38 [.i .i64 32, .u64 a] some = f2fT (Ieee.single.read (BitVec.setWidth 32 a).toNat) := by kernel_rfl
theorem nf_fof64 (a : BitVec 64) : ex [(39, to32S), (40, to64S)] (fun _ => []) Try.f38 [.i .i64 64, .u64 a] some = some (.f .f64 a.toNat) := by kernel_rfl
theorem S_fof : Sound Try.prog G0 38 (ex [(39, to32S), (40, to64S)] (fun _ => []) Try.f38) := execFn_sound (ann := fun _ => []) (TableOK.cons x_to32 (TableOK.cons x_to64 TableOK.nil)) mixed Try.func38 (by kernel_rfl) 50
theorem t_fofY : Snd 38 ofY := by
  refine Sound.of_ptG fun ds d hd => ?_
  split at hd
  · rename_i w a
    simp only [Option.some.injEq, Prod.mk.injEq, Bool.and_eq_true, Bool.not_eq_true'] at hd
    obtain ⟨⟨⟨hw, hf⟩, hn⟩, rfl⟩ := hd
    rcases okC_cases hw with rfl | rfl
    · refine S_fof.pt ((nf_fof32 a).trans ?_)
      rw [low32 hf]
      have hn' : isN Ieee.single a.toNat = false := hn
      cases h1 : fin Ieee.single a.toNat
      · have e := read_infty two_s h1 hn'
        unfold wideN
        rw [if_pos rfl, e]
        rfl
      · have e := read_fin h1
        obtain ⟨a1, _, _⟩ := longer h1
        unfold wideN
        rw [if_pos rfl]
        rw [e] at a1 ⊢
        show (if (FloatKind.f64.decode (FloatKind.f64.encode _)).isInfinity = true then _ else _) = _
        have := not_inf a1
        rw [show FloatKind.f64.encode (.number (ng Ieee.single a.toNat) (mg Ieee.single a.toNat) (pl Ieee.single a.toNat)) = Ieee.double.write (.number (ng Ieee.single a.toNat) (mg Ieee.single a.toNat) (pl Ieee.single a.toNat)) from rfl, this]
        rfl
    · exact S_fof.pt (nf_fof64 a)
  · cases hd
theorem t_fofN : Snd 38 ofN := by
  refine Sound.of_ptG fun ds d hd => ?_
  split at hd
  · rename_i w a
    simp only [Option.some.injEq, Prod.mk.injEq, Bool.and_eq_true] at hd
    obtain ⟨⟨⟨hw, hf⟩, hn⟩, rfl⟩ := hd
    rcases okC_cases hw with rfl | rfl
    · refine S_fof.pt ((nf_fof32 a).trans ?_)
      rw [low32 hf]
      obtain ⟨u, hu⟩ := read_none two_s (x := a.toNat) hn
      rw [hu]; rfl
    · refine Pt.weak (S_fof.pt (nf_fof64 a)) fun own w v hv => ?_
      simp only [lies] at hv ⊢
      refine ⟨_, hv, ?_, a.isLt⟩
      show (Ieee.double.read a.toNat).isNaN = true
      rw [isN_iff two_d]
      exact hn
  · cases hd
noncomputable def noneS : Ev.Spec := joined fun | [.i .i64 w, .u64 a] => some (.tup [.bool (mayL w [a] && isNW w a), .i .i64 (errF (mayL w [a]))]) | _ => none
noncomputable def fmayG (M : Int → List (BitVec 64) → Bool) : Ev.Spec := joined fun | [.i .i64 w, .sl64 [a]] => some (.bool (M w [a])) | [.i .i64 w, .sl64 [a, b]] => some (.bool (M w [a, b])) | _ => none
noncomputable def fmayN : Ev.Spec := guarded fun | [.i .i64 w, .sl64 [a]] => some (!mayL w [a], .bool false) | _ => none
theorem fmay_no : Snd 37 fmayN := Sound.restrict' t_fmay fun ds K r hK => by
  unfold fmayN guarded at hK
  dsimp only at hK
  split at hK
  · rename_i b d hd
    split at hd
    · cases hd
      split at hK
      · rename_i w a hb
        have : mayL w [a] = false := by simpa using hb
        simp only [fmayS, joined, this]
        exact hK
      · cases hK
    · cases hd
  · cases hK
theorem nf_none0 (w : Int) (a : BitVec 64) : ex [(37, fmayN)] (fun _ => []) Try.f21 [.i .i64 w, .u64 a] some = if (!mayL w [a]) = true then some (.tup [.bool false, .i .i64 2]) else none := by kernel_rfl
theorem nf_noneY (M : Int → List (BitVec 64) → Bool) (C : Int → BitVec 64 → Bool) (X : Int → BitVec 64 → Nat) (w : Int) (a : BitVec 64) : ex [(37, fmayG M), (38, ofG C X)] (fun _ => []) Try.f21 [.i .i64 w, .u64 a] some =
  if (!M w [a]) = true then some (.tup [.bool false, .i .i64 2]) else if C w a = true then some (.tup [.bool (!(FloatKind.f64.format.order (X w a) (X w a) == some .eq)), .i .i64 0]) else none := by kernel_rfl
theorem nf_noneN (M : Int → List (BitVec 64) → Bool) (C : Int → BitVec 64 → Bool) (w : Int) (a : BitVec 64) : ex [(37, fmayG M), (38, ofH C)] (fun _ => []) Try.f21 [.i .i64 w, .u64 a] some =
  if (!M w [a]) = true then some (.tup [.bool false, .i .i64 2]) else if C w a = true then some (.tup [.bool true, .i .i64 0]) else none := by kernel_rfl
theorem mayL_fit {w : Int} {a : BitVec 64} (h : mayL w [a] = true) : okC w = true ∧ fitF w a = true := by
  unfold mayL at h
  simp only [List.all_cons, List.all_nil, Bool.and_true, Bool.and_eq_true] at h
  refine ⟨h.1, ?_⟩
  unfold fitF
  rw [okC_W h.1, fit_C h.1, h.2]; rfl
theorem t_none : Snd 21 noneS := by
  refine Sound.of_pt fun ds d hd => ?_
  split at hd
  · rename_i w a
    cases hd
    cases hm : mayL w [a]
    · refine (execFn_sound (P := Try.prog) (G := G0) (ann := fun _ => []) (TableOK.cons fmay_no TableOK.nil) mixed Try.func21 (by kernel_rfl) 50).pt ((nf_none0 w a).trans ?_)
      rw [hm]; rfl
    · obtain ⟨hw, ha⟩ := mayL_fit hm
      have hg : Snd 37 (fmayG mayL) := t_fmay
      cases hn : isNW w a
      · refine (execFn_sound (P := Try.prog) (G := G0) (ann := fun _ => []) (TableOK.cons hg (TableOK.cons t_fofY TableOK.nil)) mixed Try.func21 (by kernel_rfl) 50).pt ((nf_noneY mayL (fun w a => okC w && fitF w a && !isNW w a) wideN w a).trans ?_)
        rw [hm, hw, ha, hn, wide_num hw hn]; rfl
      · refine (execFn_sound (P := Try.prog) (G := G0) (ann := fun _ => []) (TableOK.cons hg (TableOK.cons t_fofN TableOK.nil)) mixed Try.func21 (by kernel_rfl) 50).pt ((nf_noneN mayL (fun w a => okC w && fitF w a && isNW w a) w a).trans ?_)
        rw [hm, hw, ha, hn]; rfl
  · cases hd
end Go.L05

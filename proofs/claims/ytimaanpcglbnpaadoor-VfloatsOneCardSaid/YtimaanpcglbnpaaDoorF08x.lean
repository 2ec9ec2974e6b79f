/-
  Part of the proof; what its functions and lemmas say stands in the text.
-/
import Derived.Test.YtimaanpcglbnpaaDoorF08Y
import Derived.Test.YtimaanpcglbnpaaDoorFlD
set_option linter.unusedSimpArgs false
set_option linter.unusedVariables false
/-!
Chapter 04: rounding to whole numbers, by the document.
-/
namespace Go.L08F
open Go.Ev Go.Proofs Go.RowKit Go.Wh Go.Fl
open Go.L08

noncomputable abbrev qDig : Ev.Spec := ex [] (fun _ => []) Tryd.f142
theorem q_dig : Snd 142 qDig := execFn_sound (ann := fun _ => []) TableOK.nil mixed Tryd.func142 (by kernel_rfl) 50
noncomputable abbrev qOne : Ev.Spec := ex [] (fun _ => []) Tryd.f143
theorem q_one : Snd 143 qOne := execFn_sound (ann := fun _ => []) TableOK.nil mixed Tryd.func143 (by kernel_rfl) 50
theorem nf_up32 (a : BitVec 64) : ex [(142, qDig), (143, qOne)] (fun _ => []) Tryd.f131 [.i .i64 32, .u64 a] some = upT 23 127 1065353216#64 a := by kernel_rfl
theorem nf_od32 (a : BitVec 64) : ex [(142, qDig), (143, qOne)] (fun _ => []) Tryd.f130 [.i .i64 32, .u64 a] some = odT 23 127 8388607#64 8388608#64 a := by kernel_rfl
theorem nf_who32 (a : BitVec 64) : ex [(142, qDig), (143, qOne)] (fun _ => []) Tryd.f129 [.i .i64 32, .u64 a] some = whoT 23 127 8388607#64 a := by kernel_rfl
theorem nf_up64 (a : BitVec 64) : ex [(142, qDig), (143, qOne)] (fun _ => []) Tryd.f131 [.i .i64 64, .u64 a] some = upT 52 1023 4607182418800017408#64 a := by kernel_rfl
theorem nf_od64 (a : BitVec 64) : ex [(142, qDig), (143, qOne)] (fun _ => []) Tryd.f130 [.i .i64 64, .u64 a] some = odT 52 1023 4503599627370495#64 4503599627370496#64 a := by kernel_rfl
theorem nf_who64 (a : BitVec 64) : ex [(142, qDig), (143, qOne)] (fun _ => []) Tryd.f129 [.i .i64 64, .u64 a] some = whoT 52 1023 4503599627370495#64 a := by kernel_rfl

noncomputable def whG (C : Int → BitVec 64 → Bool) (M : Int → BitVec 64 → BitVec 64) (X Y Z : Int → BitVec 64 → Bool) : Ev.Spec := guarded fun | [.i .i64 w, .u64 a] => some (C w a, .tup [.u64 (M w a), .bool (X w a), .bool (Y w a), .bool (Z w a)]) | _ => none
noncomputable def upG (C : Int → BitVec 64 → Bool) (M : Int → BitVec 64 → BitVec 64) : Ev.Spec := guarded fun | [.i .i64 w, .u64 a] => some (C w a, .u64 (M w a)) | _ => none
noncomputable def odG (C : Int → BitVec 64 → Bool) (M : Int → BitVec 64 → Bool) : Ev.Spec := guarded fun | [.i .i64 w, .u64 a] => some (C w a, .bool (M w a)) | _ => none
def okC0 (w : Int) (_ : BitVec 64) : Bool := wOK w
theorem q_whole : Snd 129 (whG okC0 whW (fun w a => exactR (bW w) (dW w) a.toNat) (fun w a => moreR (bW w) (dW w) a.toNat) (fun w a => halfR (bW w) (dW w) a.toNat)) := by
  refine Sound.guard (execFn_sound (ann := fun _ => []) (TableOK.cons q_dig (TableOK.cons q_one TableOK.nil)) mixed Tryd.func129 (by kernel_rfl) 50) fun ds d h => ?_
  split at h
  · rename_i w a
    simp only [Option.some.injEq, Prod.mk.injEq] at h
    obtain ⟨hw, rfl⟩ := h
    rcases wOK_cases hw with rfl | rfl
    · exact (nf_who32 a).trans (who_eq (d := 23) (b := 127) (by decide) (by decide) (by decide) (by decide) a)
    · exact (nf_who64 a).trans (who_eq (d := 52) (b := 1023) (by decide) (by decide) (by decide) (by decide) a)
  · cases h
theorem q_odd : Snd 130 (odG okC0 (fun w a => oddR (bW w) (dW w) a.toNat)) := by
  refine Sound.guard (execFn_sound (ann := fun _ => []) (TableOK.cons q_dig (TableOK.cons q_one TableOK.nil)) mixed Tryd.func130 (by kernel_rfl) 50) fun ds d h => ?_
  split at h
  · rename_i w a
    simp only [Option.some.injEq, Prod.mk.injEq] at h
    obtain ⟨hw, rfl⟩ := h
    rcases wOK_cases hw with rfl | rfl
    · exact (nf_od32 a).trans (od_eq (d := 23) (b := 127) (by decide) (by decide) (by decide) a)
    · exact (nf_od64 a).trans (od_eq (d := 52) (b := 1023) (by decide) (by decide) (by decide) a)
  · cases h
theorem q_up : Snd 131 (upG upC upW) := by
  refine Sound.guard (execFn_sound (ann := fun _ => []) (TableOK.cons q_dig (TableOK.cons q_one TableOK.nil)) mixed Tryd.func131 (by kernel_rfl) 50) fun ds d h => ?_
  split at h
  · rename_i w a
    simp only [Option.some.injEq, Prod.mk.injEq, upC, Bool.and_eq_true, decide_eq_true_eq] at h
    obtain ⟨⟨hw, h1, h2⟩, rfl⟩ := h
    rcases wOK_cases hw with rfl | rfl
    · exact (nf_up32 a).trans (up_eq (d := 23) (b := 127) (by decide) (by decide) (by decide) a h1 h2)
    · exact (nf_up64 a).trans (up_eq (d := 52) (b := 1023) (by decide) (by decide) (by decide) a h1 h2)
  · cases h

/-! rounded -/
def r16 (y z c3 od : Bool) (sg m : BitVec 64) (c2 : Bool) (u : BitVec 64) : Option D := if y = false then (if z = true then (if c3 = true then roT sg m c2 u od else none) else some (.u64 (sg ||| m))) else (if c2 = true then some (.u64 (sg ||| u)) else none)
def roA (i c : Bool) (na : BitVec 64) (inn : Bool) (x : Option D) : Option D := if inn = true then (if i = true then some (.u64 na) else if c = true then x else none) else none
theorem nf_rnd16 (I : Int → BitVec 64 → Bool) (V S : Int → BitVec 64) (C : Int → BitVec 64 → Bool) (M : Int → BitVec 64 → BitVec 64) (X Y Z : Int → BitVec 64 → Bool) (C2 : Int → BitVec 64 → Bool) (M2 : Int → BitVec 64 → BitVec 64) (C3 O : Int → BitVec 64 → Bool) (w : Int) (a : BitVec 64) : ex [(106, isS I), (107, naG V), (72, sigG S), (129, whG C M X Y Z), (131, upG C2 M2), (130, odG C3 O)] (fun _ => []) Tryd.f94 [.u8 16#8, .i .i64 w, .u64 a] some =
  roA (I w a) (C w (a &&& ~~~(S w))) (V w) (inF w a) (r16 (Y w (a &&& ~~~(S w))) (Z w (a &&& ~~~(S w))) (C3 w (M w (a &&& ~~~(S w)))) (O w (M w (a &&& ~~~(S w)))) (a &&& S w) (M w (a &&& ~~~(S w))) (C2 w (M w (a &&& ~~~(S w)))) (M2 w (M w (a &&& ~~~(S w))))) := by kernel_rfl
def r13 (c x : Bool) (sg m : BitVec 64) (c2 : Bool) (u : BitVec 64) : Option D := if c = true then roT sg m c2 u x else some (.u64 (sg ||| m))
theorem nf_rnd13 (I : Int → BitVec 64 → Bool) (V S : Int → BitVec 64) (C : Int → BitVec 64 → Bool) (M : Int → BitVec 64 → BitVec 64) (X Y Z : Int → BitVec 64 → Bool) (C2 : Int → BitVec 64 → Bool) (M2 : Int → BitVec 64 → BitVec 64) (C3 O : Int → BitVec 64 → Bool) (w : Int) (a : BitVec 64) : ex [(106, isS I), (107, naG V), (72, sigG S), (129, whG C M X Y Z), (131, upG C2 M2), (130, odG C3 O)] (fun _ => []) Tryd.f94 [.u8 13#8, .i .i64 w, .u64 a] some =
  roA (I w a) (C w (a &&& ~~~(S w))) (V w) (inF w a) (r13 (a &&& S w == 0#64) (!X w (a &&& ~~~(S w))) (a &&& S w) (M w (a &&& ~~~(S w))) (C2 w (M w (a &&& ~~~(S w)))) (M2 w (M w (a &&& ~~~(S w))))) := by kernel_rfl
theorem nf_rnd14 (I : Int → BitVec 64 → Bool) (V S : Int → BitVec 64) (C : Int → BitVec 64 → Bool) (M : Int → BitVec 64 → BitVec 64) (X Y Z : Int → BitVec 64 → Bool) (C2 : Int → BitVec 64 → Bool) (M2 : Int → BitVec 64 → BitVec 64) (C3 O : Int → BitVec 64 → Bool) (w : Int) (a : BitVec 64) : ex [(106, isS I), (107, naG V), (72, sigG S), (129, whG C M X Y Z), (131, upG C2 M2), (130, odG C3 O)] (fun _ => []) Tryd.f94 [.u8 14#8, .i .i64 w, .u64 a] some =
  roA (I w a) (C w (a &&& ~~~(S w))) (V w) (inF w a) (r13 (!(a &&& S w == 0#64)) (!X w (a &&& ~~~(S w))) (a &&& S w) (M w (a &&& ~~~(S w))) (C2 w (M w (a &&& ~~~(S w)))) (M2 w (M w (a &&& ~~~(S w))))) := by kernel_rfl
theorem nf_rnd15 (I : Int → BitVec 64 → Bool) (V S : Int → BitVec 64) (C : Int → BitVec 64 → Bool) (M : Int → BitVec 64 → BitVec 64) (X Y Z : Int → BitVec 64 → Bool) (C2 : Int → BitVec 64 → Bool) (M2 : Int → BitVec 64 → BitVec 64) (C3 O : Int → BitVec 64 → Bool) (w : Int) (a : BitVec 64) : ex [(106, isS I), (107, naG V), (72, sigG S), (129, whG C M X Y Z), (131, upG C2 M2), (130, odG C3 O)] (fun _ => []) Tryd.f94 [.u8 15#8, .i .i64 w, .u64 a] some =
  roA (I w a) (C w (a &&& ~~~(S w))) (V w) (inF w a) (some (.u64 ((a &&& S w) ||| (M w (a &&& ~~~(S w)))))) := by kernel_rfl
def rnO (o : BitVec 8) (w : Int) (a : BitVec 64) : Bool := (o == 13#8 || o == 14#8 || o == 15#8 || o == 16#8) && inF w a
noncomputable def rndG (C : BitVec 8 → Int → BitVec 64 → Bool) (V : BitVec 8 → Int → BitVec 64 → BitVec 64) : Ev.Spec := guarded fun | [.u8 o, .i .i64 w, .u64 a] => some (C o w a, .u64 (V o w a)) | _ => none
theorem roA_no {i c : Bool} {na : BitVec 64} {x : Option D} (h : i = true) : roA i c na true x = some (.u64 na) := by
  unfold roA; rw [h]; rfl
theorem roA_yes {i c : Bool} {na : BitVec 64} {x : Option D} (h : i = false) (hc : c = true) : roA i c na true x = x := by
  unfold roA; rw [h, hc]; rfl
theorem rnW_nan (way : Ieee.Toward) {w : Int} {a : BitVec 64} (h : noW w a = true) : rnW way w a = naW w := by
  unfold rnW; rw [h]; rfl
theorem q_rnd : Snd 94 (rndG rnO fun o w a => rnW (wayO o) w a) := by
  refine Sound.guard (execFn_sound (ann := fun _ => []) (TableOK.cons q_is (TableOK.cons q_na (TableOK.cons q_sig (TableOK.cons q_whole (TableOK.cons q_up (TableOK.cons q_odd TableOK.nil)))))) mixed Tryd.func94 (by kernel_rfl) 50) fun ds d h => ?_
  split at h
  · rename_i o w a
    simp only [Option.some.injEq, Prod.mk.injEq, rnO, Bool.and_eq_true, Bool.or_eq_true, beq_iff_eq] at h
    obtain ⟨⟨ho, hi⟩, rfl⟩ := h
    have hw := in_ok hi
    have hsg : sigV w = sgW w := sig_W hw
    have hA := clr_rg hi
    have hng := and_ng hi
    rcases ho with ((rfl | rfl) | rfl) | rfl
    · refine (nf_rnd13 _ _ _ _ _ _ _ _ _ _ _ _ w a).trans ?_
      rw [hsg, hi]
      cases hn : noW w a
      · refine (roA_yes rfl hw).trans ?_
        have hg := ro_ok .up hi hn (g := !ng (fmW w) a.toNat && !exactR (bW w) (dW w) (rg (fmW w) a.toNat)) rfl
        have hz := goes_no .up hi hn
        rw [hng, hA]
        revert hg hz
        unfold goesR r13
        cases ng (fmW w) a.toNat
        · intro hg _; exact hg
        · intro _ hz; exact congrArg (fun z => some (D.u64 z)) (hz rfl)
      · exact (roA_no rfl).trans (by rw [rnW_nan _ hn])
    · refine (nf_rnd14 _ _ _ _ _ _ _ _ _ _ _ _ w a).trans ?_
      rw [hsg, hi]
      cases hn : noW w a
      · refine (roA_yes rfl hw).trans ?_
        have hg := ro_ok .down hi hn (g := ng (fmW w) a.toNat && !exactR (bW w) (dW w) (rg (fmW w) a.toNat)) rfl
        have hz := goes_no .down hi hn
        rw [hng, hA]
        revert hg hz
        unfold goesR r13
        cases ng (fmW w) a.toNat
        · intro _ hz; exact congrArg (fun z => some (D.u64 z)) (hz rfl)
        · intro hg _; exact hg
      · exact (roA_no rfl).trans (by rw [rnW_nan _ hn])
    · refine (nf_rnd15 _ _ _ _ _ _ _ _ _ _ _ _ w a).trans ?_
      rw [hsg, hi]
      cases hn : noW w a
      · refine (roA_yes rfl hw).trans ?_
        exact congrArg (fun z => some (D.u64 z)) (goes_no .zero hi hn rfl)
      · exact (roA_no rfl).trans (by rw [rnW_nan _ hn])
    · refine (nf_rnd16 _ _ _ _ _ _ _ _ _ _ _ _ w a).trans ?_
      rw [hsg, hi]
      cases hn : noW w a
      · refine (roA_yes rfl hw).trans ?_
        have hg := ro_ok .even hi hn (g := oddR (bW w) (dW w) (wholeR (bW w) (dW w) (rg (fmW w) a.toNat)))
        have hz := goes_no .even hi hn
        have hy := goes_yes .even hi hn
        have hc := goes_ok (way := .even) hi
        rw [hA, whW_nat hi]
        have hc3 : okC0 w (whW w (a &&& ~~~(sgW w))) = true := hw
        rw [hc3]
        revert hg hz hy hc
        unfold goesR r16
        simp only
        cases moreR (bW w) (dW w) (rg (fmW w) a.toNat)
        · cases halfR (bW w) (dW w) (rg (fmW w) a.toNat)
          · intro _ hz _ _; exact congrArg (fun z => some (D.u64 z)) (hz rfl)
          · intro hg _ _ _; exact hg rfl
        · intro _ _ hy hc
          rw [hc rfl]
          exact congrArg (fun z => some (D.u64 z)) (hy rfl)
      · exact (roA_no rfl).trans (by rw [rnW_nan _ hn])
  · cases h
/-! root -/
noncomputable def rooC (V : Int → BitVec 64 → BitVec 64) (B : Int → (Int → Prop) → Bool) : D → Option D
  | .f .f32 n => if decide (n < 2 ^ 32) = true then (if inF 32 (BitVec.setWidth 64 (BitVec.ofNat 32 n)) = true then some (.u64 (V 32 (BitVec.setWidth 64 (BitVec.ofNat 32 n)))) else none) else none
  | .nan .f32 => if B 32 (fun m => ∃ n, nanI .f32 n ∧ m = IntKind.u64.wrap n) = true then some (.u64 (naW 32)) else none
  | .xf .f32 p => if B 32 (fun m => ∃ n : Int, (∃ x : Nat, n = (x : Int) ∧ p x) ∧ m = IntKind.u64.wrap n) = true then some (.u64 (naW 32)) else none
  | _ => none
noncomputable def rooS (V : Int → BitVec 64 → BitVec 64) (B : Int → (Int → Prop) → Bool) (n : Bool) (v : Nat) : Option D := if n = true then rooC V B (.nan .f32) else f2sT (Ieee.double.read v) (rooC V B)
noncomputable def rooT (V : Int → BitVec 64 → BitVec 64) (B : Int → (Int → Prop) → Bool) (Nn : Nat → Bool) (R : Nat → Nat) (x : Ieee.Datum) : Option D := match x with
  | .nan _ _ => rooC V B (.nan .f32)
  | .infinity g => rooS V B (Nn (FloatKind.f64.encode (.infinity g))) (R (FloatKind.f64.encode (.infinity g)))
  | .number g m e => if (FloatKind.f64.decode (FloatKind.f64.encode (.number g m e))).isInfinity then none else rooS V B (Nn (FloatKind.f64.encode (.number g m e))) (R (FloatKind.f64.encode (.number g m e)))
theorem nf_rt32 (V : Int → BitVec 64 → BitVec 64) (B : Int → (Int → Prop) → Bool) (Nn : Nat → Bool) (R : Nat → Nat) (a : BitVec 64) : ex [(96, to32S), (52, of32S), (105, cleG V B), (88, lSqrt Nn R)] (fun _ => []) Tryd.f93 [.i .i64 32, .u64 a] some = rooT V B Nn R (Ieee.single.read (BitVec.setWidth 32 a).toNat) := by kernel_rfl
theorem nf_rt64 (V : Int → BitVec 64 → BitVec 64) (B : Int → (Int → Prop) → Bool) (Nn : Nat → Bool) (R : Nat → Nat) (a : BitVec 64) : ex [(97, to64S), (53, of64S), (105, cleG V B), (88, lSqrt Nn R)] (fun _ => []) Tryd.f93 [.i .i64 64, .u64 a] some = if Nn a.toNat = true then (if B 64 (nanI .f64) = true then some (.u64 (naW 64)) else none) else if decide (R a.toNat < 2 ^ 64) = true then (if inF 64 (BitVec.ofNat 64 (R a.toNat)) = true then some (.u64 (V 64 (BitVec.ofNat 64 (R a.toNat)))) else none) else none := by kernel_rfl
theorem rooC_f {n : Nat} (h : n < 2 ^ 32) (hn : isN Ieee.single n = false) : rooC clV clB (.f .f32 n) = some (.u64 (BitVec.ofNat 64 n)) := by
  have et : (BitVec.ofNat 64 n).toNat = n := by rw [BitVec.toNat_ofNat, Nat.mod_eq_of_lt (by omega)]
  have hi : inF 32 (BitVec.ofNat 64 n) = true := in32 (by rw [et]; exact h)
  show (if decide (n < 2 ^ 32) = true then _ else none) = _
  rw [if_pos (decide_eq_true h), up32 h, if_pos hi]
  unfold clV
  have e : noW 32 (BitVec.ofNat 64 n) = false := by unfold noW; rw [et]; exact hn
  rw [e]; rfl
theorem rooC_n : rooC clV clB (.nan .f32) = some (.u64 (naW 32)) := if_pos cl32
theorem sq_nan {x : Nat} (h : isN Ieee.double x = true) : sqN x = true := by
  unfold sqN Ieee.Format.sqrt
  obtain ⟨u, hu⟩ := read_none two_d h
  rw [hu]; rfl
theorem inf_notN (g : Bool) : isN Ieee.single (Ieee.single.write (.infinity g)) = false := by cases g <;> decide
theorem rooS_ok {x : Nat} {v : Nat} (hc : sqN x = false → bsC 32 v = true) : rooS clV clB (sqN x) v = some (.u64 (if sqN x = true then naW 32 else bsV 32 v)) := by
  unfold rooS
  cases hs : sqN x
  · rw [if_neg (by decide), if_neg (by decide)]
    have hc' : (isN Ieee.double v || fin Ieee.single (Ieee.single.write (Ieee.double.read v)) || !fin Ieee.double v) = true := hc hs
    unfold bsV
    cases hn : isN Ieee.double v
    · rw [hn] at hc'
      rw [if_neg (by decide), if_pos rfl]
      cases hf : fin Ieee.double v
      · have e := read_infty two_d hf hn
        rw [e]
        show rooC clV clB (.f .f32 (Ieee.single.write (.infinity (ng Ieee.double v)))) = _
        exact rooC_f (write_lt two_s _) (inf_notN _)
      · rw [hf] at hc'
        have e := read_fin hf
        rw [e] at hc' ⊢
        have hfin : fin Ieee.single (Ieee.single.write (.number (ng Ieee.double v) (mg Ieee.double v) (pl Ieee.double v))) = true := by simpa using hc'
        show (if (Ieee.single.read (Ieee.single.write (.number (ng Ieee.double v) (mg Ieee.double v) (pl Ieee.double v)))).isInfinity = true then _ else _) = _
        have hi : (Ieee.single.read (Ieee.single.write (.number (ng Ieee.double v) (mg Ieee.double v) (pl Ieee.double v)))).isInfinity = false := by
          rw [read_fin hfin]; rfl
        rw [hi]
        exact rooC_f (write_lt two_s _) (fin_notN hfin)
    · obtain ⟨u, hu⟩ := read_none two_d hn
      rw [hu]
      exact rooC_n
  · rw [if_pos rfl, if_pos rfl]
    exact rooC_n
noncomputable def rootG (C : Int → BitVec 64 → Bool) (V : Int → BitVec 64 → BitVec 64) : Ev.Spec := guarded fun | [.i .i64 w, .u64 a] => some (C w a, .u64 (V w a)) | _ => none
theorem q_root : Snd 93 (rootG inF sqW) := by
  refine Sound.of_ptG fun ds d hd => ?_
  split at hd
  · rename_i w a
    rw [Option.some.injEq, Prod.mk.injEq] at hd
    obtain ⟨hi, rfl⟩ := hd
    rcases inF_cases hi with ⟨rfl, ha⟩ | rfl
    · refine (execFn_sound (P := Tryd.prog) (G := G0) (ann := fun _ => []) (TableOK.cons x_to32 (TableOK.cons x_of32 (TableOK.cons q_cle (TableOK.cons s_Sqrt TableOK.nil)))) mixed Tryd.func93 (by kernel_rfl) 50).pt ((nf_rt32 _ _ _ _ a).trans ?_)
      rw [lo32 ha]
      cases hn : noW 32 a
      · have hn' : isN Ieee.single a.toNat = false := hn
        have hk : sqN (lng a.toNat) = false → bsC 32 (sqR (lng a.toNat)) = true := fun hs => sq_bs (a := a) hi hn hs
        have main := rooS_ok hk
        have ev : sqW 32 a = if sqN (lng a.toNat) = true then naW 32 else bsV 32 (sqR (lng a.toNat)) := by
          unfold sqW; rw [hn]; rfl
        rw [ev, ← main]
        unfold lng
        cases h1 : fin Ieee.single a.toNat
        · have e := read_infty two_s h1 hn'
          rw [e]; rfl
        · have e := read_fin h1
          obtain ⟨a1, _, _⟩ := longer h1
          rw [e] at a1 ⊢
          show (if (FloatKind.f64.decode (FloatKind.f64.encode _)).isInfinity = true then _ else _) = _
          have := no_inf a1
          rw [show FloatKind.f64.encode (.number (ng Ieee.single a.toNat) (mg Ieee.single a.toNat) (pl Ieee.single a.toNat)) = Ieee.double.write (.number (ng Ieee.single a.toNat) (mg Ieee.single a.toNat) (pl Ieee.single a.toNat)) from rfl, this]
          rfl
      · obtain ⟨u, hu⟩ := read_none two_s (x := a.toNat) hn
        rw [hu]
        have ev : sqW 32 a = naW 32 := by unfold sqW; rw [hn]; rfl
        rw [ev]
        exact rooC_n
    · refine (execFn_sound (P := Tryd.prog) (G := G0) (ann := fun _ => []) (TableOK.cons x_to64 (TableOK.cons x_of64 (TableOK.cons q_cle (TableOK.cons s_Sqrt TableOK.nil)))) mixed Tryd.func93 (by kernel_rfl) 50).pt ((nf_rt64 _ _ _ _ a).trans ?_)
      have hN : noW 64 a = true → sqN a.toNat = true := fun h => sq_nan (x := a.toNat) h
      cases hs : sqN a.toNat
      · have hn : noW 64 a = false := by
          cases h : noW 64 a
          · rfl
          · rw [hN h] at hs; cases hs
        have hb := sq_bs (a := a) hi hn hs
        have hlt : sqR a.toNat < 2 ^ 64 := of_decide_eq_true hb
        rw [if_neg (by decide), if_pos (decide_eq_true hlt), if_pos (in64 _)]
        have ev : sqW 64 a = bsV 64 (sqR a.toNat) := by
          unfold sqW; rw [hn]
          show (if sqN a.toNat = true then _ else _) = _
          rw [hs]; rfl
        rw [ev]
        have et : (BitVec.ofNat 64 (sqR a.toNat)).toNat = sqR a.toNat := by rw [BitVec.toNat_ofNat, Nat.mod_eq_of_lt hlt]
        unfold clV bsV
        have e : noW 64 (BitVec.ofNat 64 (sqR a.toNat)) = isN Ieee.double (sqR a.toNat) := by unfold noW; rw [et]; rfl
        rw [e]
        cases isN Ieee.double (sqR a.toNat) <;> rfl
      · rw [if_pos rfl, if_pos cl64]
        have ev : sqW 64 a = naW 64 := by
          unfold sqW
          show (if noW 64 a = true then _ else if sqN a.toNat = true then _ else _) = _
          rw [hs]
          cases noW 64 a <;> rfl
        rw [ev]
  · cases hd
/-! One -/
def roneT (W F : Bool) (o : BitVec 8) (a s : BitVec 64) (rc : Bool) (r : BitVec 64) (nc : Bool) (n : BitVec 64) : Option D :=
  if (!W) = false then if (!F) = true then E2 else
    if (o == 10#8) = true then okT (a &&& ~~~s) else if (o == 11#8) = true then okT (a ^^^ s) else if (o == 12#8) = true then (if rc = true then okT r else none)
    else if (o == 13#8) = true then (if nc = true then okT n else none) else if (o == 14#8) = true then (if nc = true then okT n else none) else if (o == 15#8) = true then (if nc = true then okT n else none) else if (o == 16#8) = true then (if nc = true then okT n else none) else E2
  else E2
theorem nf_rone (W : Int → Bool) (F : Int → BitVec 64 → Bool) (S : Int → BitVec 64) (RC : Int → BitVec 64 → Bool) (R : Int → BitVec 64 → BitVec 64) (NC : BitVec 8 → Int → BitVec 64 → Bool) (N : BitVec 8 → Int → BitVec 64 → BitVec 64) (o : BitVec 8) (w : Int) (a : BitVec 64) :
  ex [(30, wiG W), (68, fiG F), (72, sigG S), (93, rootG RC R), (94, rndG NC N)] (fun _ => []) Tryd.f56 [.u8 o, .i .i64 w, .u64 a] some = roneT (W w) (F w a) o a (S w) (RC w a) (R w a) (NC o w a) (N o w a) := by kernel_rfl
theorem f_rone : Snd 56 (oneG onV onE) := by
  refine Sound.join (execFn_sound (ann := fun _ => []) (TableOK.cons q_W (TableOK.cons q_F (TableOK.cons q_sig (TableOK.cons q_root (TableOK.cons q_rnd TableOK.nil))))) mixed Tryd.func56 (by kernel_rfl) 50) fun ds d h => ?_
  split at h
  · rename_i o w a
    cases h
    refine (nf_rone _ _ _ _ _ _ _ o w a).trans ?_
    cases hi : inF w a
    · unfold onV onE roneT
      rw [hi]
      unfold inF at hi
      revert hi
      cases wOK w <;> cases fiW w a <;> intro hi <;> first | rfl | cases hi
    · have hw := in_ok hi
      have hf : fiW w a = true := by unfold inF at hi; rw [Bool.and_eq_true] at hi; exact hi.2
      rw [hw, hf, sig_W hw]
      have hr : rnO o w a = (o == 13#8 || o == 14#8 || o == 15#8 || o == 16#8) := by unfold rnO; rw [hi, Bool.and_true]
      rw [hr]
      unfold onV onE roneT onV1 onOp
      rw [hi]
      generalize (o == 10#8) = c0
      generalize (o == 11#8) = c1
      generalize (o == 12#8) = c2
      generalize (o == 13#8) = c3
      generalize (o == 14#8) = c4
      generalize (o == 15#8) = c5
      generalize (o == 16#8) = c6
      cases c0 <;> first | rfl | skip
      cases c1 <;> first | rfl | skip
      cases c2 <;> first | rfl | skip
      cases c3 <;> first | rfl | skip
      cases c4 <;> first | rfl | skip
      cases c5 <;> first | rfl | skip
      cases c6 <;> rfl
  · cases h
end Go.L08F

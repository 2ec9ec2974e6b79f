/-
  Part of the proof; what its functions and lemmas say stands in the text.
-/
import Derived.Test.YtnbafdmlfpmfkaaGreatDoorW23A
import Derived.Test.YtnbafdmlfpmfkaaGreatDoorV23S
set_option linter.unusedSimpArgs false
set_option linter.unusedVariables false
namespace Go.L23
open Go.Ev Go.Proofs Go.RowKit Go.Wh
def narN (f t : Int) (s : Bool) (a : BitVec 64) : BitVec 64 := ifF (okN f t a) (narF f t s a)
def narR (f t : Int) (_ : Bool) (a : BitVec 64) : Int := errF (okN f t a)
theorem c_Nar : Snd 265 (ConG narN narR) := t_Narrow
def inN (w : Int) : Bool := w == 16 || w == 32
def narL (X : BX) (w : Int) (s : Bool) (a0 a1 b0 b1 : BitVec 64) : List (BitVec 64) := (listF a0 a1 w ++ listF b0 b1 w).map (X w (w / 2) s)
noncomputable def VnarS (X : BX) : Ev.Spec := joined fun | [.i .i64 w, .bool s, .agg [.u64 a0, .u64 a1], .agg [.u64 b0, .u64 b1]] => some (eachB (inN w) (w / 2) (narL X w s a0 a1 b0 b1)) | _ => none
def annN : Nat → List Nat := fun | 7 => [0, 1, 8, 14, 39, 40, 41] | _ => []
theorem inN_cases {w : Int} (h : inN w = true) : w = 16 ∨ w = 32 := by simpa [inN] using h
theorem vNar_16 (X : BX) (Y : EX) (s : Bool) (a0 a1 b0 b1 : BitVec 64) : ex [(182, left allF), (265, ConG X Y), (79, OfS)] annN Tryz.f198 [.i .i64 16, .bool s, vec a0 a1, vec b0 b1] some =
 some (eachB (okOf 8 (narL X 16 s a0 a1 b0 b1)) 8 (narL X 16 s a0 a1 b0 b1)) := by kernel_rfl
theorem vNar_32 (X : BX) (Y : EX) (s : Bool) (a0 a1 b0 b1 : BitVec 64) : ex [(182, left allF), (265, ConG X Y), (79, OfS)] annN Tryz.f198 [.i .i64 32, .bool s, vec a0 a1, vec b0 b1] some =
 some (eachB (okOf 16 (narL X 32 s a0 a1 b0 b1)) 16 (narL X 32 s a0 a1 b0 b1)) := by kernel_rfl
theorem vNar_no (w : Int) (s : Bool) (a0 a1 b0 b1 : BitVec 64) : ex [] (fun _ => []) Tryz.f198 [.i .i64 w, .bool s, vec a0 a1, vec b0 b1] some =
 if (!(w == 16)) = true then if (!(w == 32)) = true then some ofErr else none else none := by kernel_rfl
theorem inN_no {w : Int} (h : inN w = false) {x : D} : (if (!(w == 16)) = true then if (!(w == 32)) = true then some x else none else none) = some x := by
 simp only [inN, Bool.or_eq_false_iff] at h
 simp [h.1, h.2]
theorem half_fit {w : Int} (hw : inN w = true) : okW w = true ∧ okW (w / 2) = true ∧ w / 2 < w ∧ (128 / (w / 2)).toNat = (128 / w).toNat + (128 / w).toNat := by
 rcases inN_cases hw with rfl | rfl <;> decide
theorem okOf_nar {w : Int} (hw : inN w = true) (s : Bool) (a0 a1 b0 b1 : BitVec 64) : okOf (w / 2) (narL narN w s a0 a1 b0 b1) = true := by
 obtain ⟨h1, h2, h3, h4⟩ := half_fit hw
 simp only [okOf, h2, narL, List.length_map, List.length_append, listF_length, h4, decide_true, Bool.true_and, List.all_eq_true, List.mem_map, List.mem_append]
 rintro _ ⟨z, hz, rfl⟩
 have hf : fitF w z = true := hz.elim (list_fit h1 z) (list_fit h1 z)
 have : okN w (w / 2) z = true := by simp [okN, hf, h2, h3]
 refine decide_eq_true ?_
 unfold narN narF
 rw [this]
 show (if s = true then _ else _) ≤ _
 have hr := sgn_range hf
 split
 ·exact and_le _ _
 ·have hp : 0 < pw (w / 2) := by rcases inN_cases hw with rfl | rfl <;> decide
  have hp2 : pw (w / 2) ≤ 65536 := by rcases inN_cases hw with rfl | rfl <;> decide
  refine le_of_fit (fit_of_nat h2 ?_)
  rw [ofInt_nat (by omega) (by omega)]
  omega
theorem t_vNar : Snd 198 (VnarS narN) := by
 refine Sound.of_pt fun ds d hd => ?_
 split at hd
 ·rename_i w s a0 a1 b0 b1
  cases hd
  cases hw : inN w
  ·exact (execFn_sound (ann := fun _ => []) TableOK.nil mixed Tryz.func198 (by kernel_rfl) 50).pt ((vNar_no w s a0 a1 b0 b1).trans (inN_no hw))
  ·have S := execFn_sound (P := Tryz.prog) (G := G0) (ann := annN) (TableOK.cons All28.left (TableOK.cons c_Nar (TableOK.cons (OfJ Of30) TableOK.nil))) mixed Tryz.func198 (by kernel_rfl) 50
   have hk := okOf_nar hw s a0 a1 b0 b1
   rcases inN_cases hw with rfl | rfl
   ·exact S.pt ((vNar_16 narN narR s a0 a1 b0 b1).trans (by rw [show okOf 8 (narL narN 16 s a0 a1 b0 b1) = true from hk]; rfl))
   ·exact S.pt ((vNar_32 narN narR s a0 a1 b0 b1).trans (by rw [show okOf 16 (narL narN 32 s a0 a1 b0 b1) = true from hk]; rfl))
 ·cases hd
end Go.L23
namespace Go.L23
open Go.Ev Go.Proofs Go.RowKit Go.Wh
def mulM (w : Int) (x y : BitVec 64) : BitVec 64 := x * y &&& maskF w
def timL (X : BX) (w : Int) (s h : Bool) (a0 a1 b0 b1 : BitVec 64) : List (BitVec 64) := List.zipWith (mulM (2 * w)) (wideL X w s h a0 a1) (wideL X w s h b0 b1)
noncomputable def VtimS (X : BX) : Ev.Spec := joined fun | [.i .i64 w, .bool s, .bool h, .agg [.u64 a0, .u64 a1], .agg [.u64 b0, .u64 b1]] => some (eachB (inW w) (2 * w) (timL X w s h a0 a1 b0 b1)) | _ => none
theorem zip_id {α : Type} {f g : BitVec 64 → BitVec 64 → α} : ∀ (l k : List (BitVec 64)), (∀ x ∈ l, ∀ y ∈ k, f x y = g x y) → List.zipWith f l k = List.zipWith g l k
 | [], _, _ => by simp
 | _ :: _, [], _ => by simp
 | x :: l, y :: k, h => by
  simp only [List.zipWith_cons_cons]
  rw [h x List.mem_cons_self y List.mem_cons_self, zip_id l k fun a ha b hb => h a (List.mem_cons_of_mem _ ha) b (List.mem_cons_of_mem _ hb)]
theorem zip_fit {f : BitVec 64 → BitVec 64 → BitVec 64} {m : BitVec 64} (h : ∀ x y, f x y ≤ m) : ∀ l k : List (BitVec 64), (List.zipWith f l k).all (fun z => decide (z ≤ m)) = true
 | [], _ => by simp
 | _ :: _, [] => by simp
 | x :: l, y :: k => by
  simp only [List.zipWith_cons_cons, List.all_cons, h x y, decide_true, Bool.true_and]
  exact zip_fit h l k
theorem okOf_tim {w : Int} (hw : inW w = true) (X : BX) (s h : Bool) (a0 a1 b0 b1 : BitVec 64) : okOf (2 * w) (timL X w s h a0 a1 b0 b1) = true := by
 obtain ⟨h1, h2, h3, h4, h5⟩ := twice_fit hw
 simp only [okOf, h2, timL, List.length_zipWith, wide_len X hw, Nat.min_self, decide_true, Bool.true_and]
 exact zip_fit (fun x y => and_le _ _) _ _
theorem may2 {w : Int} {a b : BitVec 64} (ha : fitF w a = true) (hb : fitF w b = true) : mayF w [a, b] = true := by
 simp only [fitF, Bool.and_eq_true] at ha hb
 simp [mayF, ha.1, of_decide_eq_true ha.2, of_decide_eq_true hb.2]
theorem two_mul {w : Int} {a b : BitVec 64} (ha : fitF w a = true) (hb : fitF w b = true) : twoN 3#8 w a b = mulM w a b ∧ twoR 3#8 w a b = 0 := by
 have hm := may2 ha hb
 unfold twoN twoR ifF
 rw [if_pos hm, if_pos hm]
 exact ⟨rfl, rfl⟩
theorem two_add {w : Int} {a b : BitVec 64} (ha : fitF w a = true) (hb : fitF w b = true) : twoN 1#8 w a b = a + b &&& maskF w := by
 have hm := may2 ha hb
 unfold twoN ifF
 rw [if_pos hm]
 rfl
theorem wide_fit {w : Int} (hw : inW w = true) {s h : Bool} {a0 a1 z : BitVec 64} (hz : z ∈ wideL extN w s h a0 a1) : fitF (2 * w) z = true := by
 obtain ⟨y, hy, rfl⟩ := wide_mem hz
 exact ext_fits hw s (list_fit (twice_fit hw).1 y hy)
theorem zip_all0 {f : BitVec 64 → BitVec 64 → Int} : ∀ (l k : List (BitVec 64)), (∀ x ∈ l, ∀ y ∈ k, f x y = 0) → (List.zipWith f l k).all (fun r => r == 0) = true
 | [], _, _ => by simp
 | _ :: _, [], _ => by simp
 | x :: l, y :: k, h => by
  simp only [List.zipWith_cons_cons, List.all_cons, h x List.mem_cons_self y List.mem_cons_self, beq_self_eq_true, Bool.true_and]
  exact zip_all0 l k fun a ha b hb => h a (List.mem_cons_of_mem _ ha) b (List.mem_cons_of_mem _ hb)
theorem okT_tim {w : Int} (hw : inW w = true) (s h : Bool) (a0 a1 b0 b1 : BitVec 64) :
  lT twoN 3#8 (2 * w) (vecF (2 * w) (wideL extN w s h a0 a1)).1 (vecF (2 * w) (wideL extN w s h a0 a1)).2 (vecF (2 * w) (wideL extN w s h b0 b1)).1 (vecF (2 * w) (wideL extN w s h b0 b1)).2 = timL extN w s h a0 a1 b0 b1 ∧
  okT twoN twoR 3#8 (2 * w) (vecF (2 * w) (wideL extN w s h a0 a1)).1 (vecF (2 * w) (wideL extN w s h a0 a1)).2 (vecF (2 * w) (wideL extN w s h b0 b1)).1 (vecF (2 * w) (wideL extN w s h b0 b1)).2 = true := by
 have e1 := list_vecF (okOf_wide hw s h a0 a1)
 have e2 := list_vecF (okOf_wide hw s h b0 b1)
 have el : lT twoN 3#8 (2 * w) (vecF (2 * w) (wideL extN w s h a0 a1)).1 (vecF (2 * w) (wideL extN w s h a0 a1)).2 (vecF (2 * w) (wideL extN w s h b0 b1)).1 (vecF (2 * w) (wideL extN w s h b0 b1)).2 = timL extN w s h a0 a1 b0 b1 := by
  unfold lT timL
  rw [e1, e2]
  exact zip_id _ _ fun x hx y hy => (two_mul (wide_fit hw hx) (wide_fit hw hy)).1
 refine ⟨el, ?_⟩
 unfold okT okEach
 rw [el, okOf_tim hw]
 have : (rT twoR 3#8 (2 * w) (vecF (2 * w) (wideL extN w s h a0 a1)).1 (vecF (2 * w) (wideL extN w s h a0 a1)).2 (vecF (2 * w) (wideL extN w s h b0 b1)).1 (vecF (2 * w) (wideL extN w s h b0 b1)).2).all (fun r => r == 0) = true := by
  unfold rT
  rw [e1, e2]
  exact zip_all0 _ _ fun x hx y hy => (two_mul (wide_fit hw hx) (wide_fit hw hy)).2
 rw [this]; rfl
theorem vTim_8 (X : BX) (P Q : B2x) (E : E2x) (s h : Bool) (a0 a1 b0 b1 : BitVec 64) : ex [(30, VwideS X), (266, V2G P Q E)] (fun _ => []) Tryz.f199 [.i .i64 8, .bool s, .bool h, vec a0 a1, vec b0 b1] some =
 some (.tup [vec (P 3#8 16 (vecF 16 (wideL X 8 s h a0 a1)).1 (vecF 16 (wideL X 8 s h a0 a1)).2 (vecF 16 (wideL X 8 s h b0 b1)).1 (vecF 16 (wideL X 8 s h b0 b1)).2) (Q 3#8 16 (vecF 16 (wideL X 8 s h a0 a1)).1 (vecF 16 (wideL X 8 s h a0 a1)).2 (vecF 16 (wideL X 8 s h b0 b1)).1 (vecF 16 (wideL X 8 s h b0 b1)).2), .i .i64 (E 3#8 16 (vecF 16 (wideL X 8 s h a0 a1)).1 (vecF 16 (wideL X 8 s h a0 a1)).2 (vecF 16 (wideL X 8 s h b0 b1)).1 (vecF 16 (wideL X 8 s h b0 b1)).2)]) := by kernel_rfl
theorem vTim_16 (X : BX) (P Q : B2x) (E : E2x) (s h : Bool) (a0 a1 b0 b1 : BitVec 64) : ex [(30, VwideS X), (266, V2G P Q E)] (fun _ => []) Tryz.f199 [.i .i64 16, .bool s, .bool h, vec a0 a1, vec b0 b1] some =
 some (.tup [vec (P 3#8 32 (vecF 32 (wideL X 16 s h a0 a1)).1 (vecF 32 (wideL X 16 s h a0 a1)).2 (vecF 32 (wideL X 16 s h b0 b1)).1 (vecF 32 (wideL X 16 s h b0 b1)).2) (Q 3#8 32 (vecF 32 (wideL X 16 s h a0 a1)).1 (vecF 32 (wideL X 16 s h a0 a1)).2 (vecF 32 (wideL X 16 s h b0 b1)).1 (vecF 32 (wideL X 16 s h b0 b1)).2), .i .i64 (E 3#8 32 (vecF 32 (wideL X 16 s h a0 a1)).1 (vecF 32 (wideL X 16 s h a0 a1)).2 (vecF 32 (wideL X 16 s h b0 b1)).1 (vecF 32 (wideL X 16 s h b0 b1)).2)]) := by kernel_rfl
theorem vTim_32 (X : BX) (P Q : B2x) (E : E2x) (s h : Bool) (a0 a1 b0 b1 : BitVec 64) : ex [(30, VwideS X), (266, V2G P Q E)] (fun _ => []) Tryz.f199 [.i .i64 32, .bool s, .bool h, vec a0 a1, vec b0 b1] some =
 some (.tup [vec (P 3#8 64 (vecF 64 (wideL X 32 s h a0 a1)).1 (vecF 64 (wideL X 32 s h a0 a1)).2 (vecF 64 (wideL X 32 s h b0 b1)).1 (vecF 64 (wideL X 32 s h b0 b1)).2) (Q 3#8 64 (vecF 64 (wideL X 32 s h a0 a1)).1 (vecF 64 (wideL X 32 s h a0 a1)).2 (vecF 64 (wideL X 32 s h b0 b1)).1 (vecF 64 (wideL X 32 s h b0 b1)).2), .i .i64 (E 3#8 64 (vecF 64 (wideL X 32 s h a0 a1)).1 (vecF 64 (wideL X 32 s h a0 a1)).2 (vecF 64 (wideL X 32 s h b0 b1)).1 (vecF 64 (wideL X 32 s h b0 b1)).2)]) := by kernel_rfl
theorem vTim_no (w : Int) (s h : Bool) (a0 a1 b0 b1 : BitVec 64) : ex [(30, guarded fun | [.i .i64 w, .bool _, .bool _, .agg [.u64 _, .u64 _]] => some (!inW w, ofErr) | _ => none)] (fun _ => []) Tryz.f199 [.i .i64 w, .bool s, .bool h, vec a0 a1, vec b0 b1] some =
 if (!inW w) = true then some ofErr else none := by kernel_rfl
theorem wideNo : Snd 30 (guarded fun | [.i .i64 w, .bool _, .bool _, .agg [.u64 _, .u64 _]] => some (!inW w, ofErr) | _ => none) := t_vWide.restrict fun ds K r h => by
 unfold guarded at h
 dsimp only at h
 split at h
 ·rename_i b d hd
  split at hd
  ·cases hd
   split at h
   ·rename_i w s hi a0 a1 hb
    have : inW w = false := by simpa using hb
    simp only [VwideS, joined, this]
    exact h
   ·cases h
  ·cases hd
 ·cases h
abbrev pP : B2x := fun o w a0 a1 b0 b1 => ifF (okT twoN twoR o w a0 a1 b0 b1) (vecF w (lT twoN o w a0 a1 b0 b1)).1
abbrev qP : B2x := fun o w a0 a1 b0 b1 => ifF (okT twoN twoR o w a0 a1 b0 b1) (vecF w (lT twoN o w a0 a1 b0 b1)).2
abbrev eP : E2x := fun o w a0 a1 b0 b1 => errF (okT twoN twoR o w a0 a1 b0 b1)
theorem g13 : Snd 266 (V2G pP qP eP) := t_V13
theorem t_vTim : Snd 199 (VtimS extN) := by
 refine Sound.of_pt fun ds d hd => ?_
 split at hd
 ·rename_i w s h a0 a1 b0 b1
  cases hd
  cases hw : inW w
  ·refine (execFn_sound (ann := fun _ => []) (TableOK.cons wideNo TableOK.nil) mixed Tryz.func199 (by kernel_rfl) 50).pt ((vTim_no w s h a0 a1 b0 b1).trans ?_)
   rw [hw]; rfl
  ·have S := execFn_sound (P := Tryz.prog) (G := G0) (ann := fun _ => []) (TableOK.cons t_vWide (TableOK.cons g13 TableOK.nil)) mixed Tryz.func199 (by kernel_rfl) 50
   obtain ⟨e1, e2⟩ := okT_tim hw s h a0 a1 b0 b1
   rcases inW_cases hw with rfl | rfl | rfl
   ·refine S.pt ((vTim_8 extN pP qP eP s h a0 a1 b0 b1).trans ?_)
    have e2' : okT twoN twoR 3#8 16 (vecF 16 (wideL extN 8 s h a0 a1)).1 (vecF 16 (wideL extN 8 s h a0 a1)).2 (vecF 16 (wideL extN 8 s h b0 b1)).1 (vecF 16 (wideL extN 8 s h b0 b1)).2 = true := e2
    have e1' : lT twoN 3#8 16 (vecF 16 (wideL extN 8 s h a0 a1)).1 (vecF 16 (wideL extN 8 s h a0 a1)).2 (vecF 16 (wideL extN 8 s h b0 b1)).1 (vecF 16 (wideL extN 8 s h b0 b1)).2 = timL extN 8 s h a0 a1 b0 b1 := e1
    unfold pP qP eP
    rw [e2', e1']
    rfl
   ·refine S.pt ((vTim_16 extN pP qP eP s h a0 a1 b0 b1).trans ?_)
    have e2' : okT twoN twoR 3#8 32 (vecF 32 (wideL extN 16 s h a0 a1)).1 (vecF 32 (wideL extN 16 s h a0 a1)).2 (vecF 32 (wideL extN 16 s h b0 b1)).1 (vecF 32 (wideL extN 16 s h b0 b1)).2 = true := e2
    have e1' : lT twoN 3#8 32 (vecF 32 (wideL extN 16 s h a0 a1)).1 (vecF 32 (wideL extN 16 s h a0 a1)).2 (vecF 32 (wideL extN 16 s h b0 b1)).1 (vecF 32 (wideL extN 16 s h b0 b1)).2 = timL extN 16 s h a0 a1 b0 b1 := e1
    unfold pP qP eP
    rw [e2', e1']
    rfl
   ·refine S.pt ((vTim_32 extN pP qP eP s h a0 a1 b0 b1).trans ?_)
    have e2' : okT twoN twoR 3#8 64 (vecF 64 (wideL extN 32 s h a0 a1)).1 (vecF 64 (wideL extN 32 s h a0 a1)).2 (vecF 64 (wideL extN 32 s h b0 b1)).1 (vecF 64 (wideL extN 32 s h b0 b1)).2 = true := e2
    have e1' : lT twoN 3#8 64 (vecF 64 (wideL extN 32 s h a0 a1)).1 (vecF 64 (wideL extN 32 s h a0 a1)).2 (vecF 64 (wideL extN 32 s h b0 b1)).1 (vecF 64 (wideL extN 32 s h b0 b1)).2 = timL extN 32 s h a0 a1 b0 b1 := e1
    unfold pP qP eP
    rw [e2', e1']
    rfl
 ·cases hd
def pairL (f : BitVec 64 → BitVec 64 → BitVec 64) : List (BitVec 64) → List (BitVec 64)
 | x :: y :: l => f x y :: pairL f l
 | _ => []
theorem pairL_id {f g : BitVec 64 → BitVec 64 → BitVec 64} : ∀ l : List (BitVec 64), (∀ x ∈ l, ∀ y ∈ l, f x y = g x y) → pairL f l = pairL g l
 | [], _ => rfl
 | [_], _ => rfl
 | x :: y :: l, h => by
  simp only [pairL]
  rw [h x (by simp) y (by simp), pairL_id l fun a ha b hb => h a (by simp [ha]) b (by simp [hb])]
theorem pairL_len {f : BitVec 64 → BitVec 64 → BitVec 64} : ∀ l : List (BitVec 64), (pairL f l).length = l.length / 2
 | [] => rfl
 | [_] => by simp [pairL]
 | x :: y :: l => by simp only [pairL, List.length_cons, pairL_len l]; omega
theorem pairL_mem {f : BitVec 64 → BitVec 64 → BitVec 64} {z : BitVec 64} : ∀ l : List (BitVec 64), z ∈ pairL f l → ∃ x y, z = f x y
 | [], h => by cases h
 | [_], h => by cases h
 | x :: y :: l, h => by
  simp only [pairL, List.mem_cons] at h
  rcases h with rfl | h
  ·exact ⟨x, y, rfl⟩
  ·exact pairL_mem l h
def inP (w : Int) : Bool := w == 8 || w == 16
theorem inP_cases {w : Int} (h : inP w = true) : w = 8 ∨ w = 16 := by simpa [inP] using h
theorem inP_W {w : Int} (h : inP w = true) : inW w = true := by rcases inP_cases h with rfl | rfl <;> rfl
def sumM (X : BX) (w : Int) (s : Bool) (x y : BitVec 64) : BitVec 64 := X w (2 * w) s x + X w (2 * w) s y &&& maskF (2 * w)
def prsL (X : BX) (w : Int) (s : Bool) (a0 a1 : BitVec 64) : List (BitVec 64) := pairL (sumM X w s) (listF a0 a1 w)
noncomputable def VprsS (X : BX) : Ev.Spec := joined fun | [.i .i64 w, .bool s, .agg [.u64 a0, .u64 a1]] => some (eachB (inP w) (2 * w) (prsL X w s a0 a1)) | _ => none
def annP : Nat → List Nat := fun | 6 => [0, 1, 6, 8, 10, 11] | _ => []
def sumN (X : BX) (N : B2) (w : Int) (s : Bool) (x y : BitVec 64) : BitVec 64 := N 1#8 (2 * w) (X w (2 * w) s x) (X w (2 * w) s y)
theorem vPrs_8 (X : BX) (Y : EX) (N : B2) (R : E2) (s : Bool) (a0 a1 : BitVec 64) : ex [(182, left allF), (29, ConG X Y), (133, TwoG N R), (79, OfS)] annP Tryz.f200 [.i .i64 8, .bool s, vec a0 a1] some =
 some (eachB (okOf 16 (pairL (sumN X N 8 s) (listF a0 a1 8))) 16 (pairL (sumN X N 8 s) (listF a0 a1 8))) := by kernel_rfl
theorem vPrs_16 (X : BX) (Y : EX) (N : B2) (R : E2) (s : Bool) (a0 a1 : BitVec 64) : ex [(182, left allF), (29, ConG X Y), (133, TwoG N R), (79, OfS)] annP Tryz.f200 [.i .i64 16, .bool s, vec a0 a1] some =
 some (eachB (okOf 32 (pairL (sumN X N 16 s) (listF a0 a1 16))) 32 (pairL (sumN X N 16 s) (listF a0 a1 16))) := by kernel_rfl
theorem vPrs_no (w : Int) (s : Bool) (a0 a1 : BitVec 64) : ex [] (fun _ => []) Tryz.f200 [.i .i64 w, .bool s, vec a0 a1] some =
 if (!(w == 8)) = true then if (!(w == 16)) = true then some ofErr else none else none := by kernel_rfl
theorem inP_no {w : Int} (h : inP w = false) {x : D} : (if (!(w == 8)) = true then if (!(w == 16)) = true then some x else none else none) = some x := by
 simp only [inP, Bool.or_eq_false_iff] at h
 simp [h.1, h.2]
theorem prs_eq {w : Int} (hw : inP w = true) (s : Bool) (a0 a1 : BitVec 64) : pairL (sumN extN twoN w s) (listF a0 a1 w) = prsL extN w s a0 a1 := by
 have h1 := (twice_fit (inP_W hw)).1
 refine pairL_id _ fun x hx y hy => ?_
 exact two_add (ext_fits (inP_W hw) s (list_fit h1 x hx)) (ext_fits (inP_W hw) s (list_fit h1 y hy))
theorem okOf_prs {w : Int} (hw : inP w = true) (X : BX) (s : Bool) (a0 a1 : BitVec 64) : okOf (2 * w) (prsL X w s a0 a1) = true := by
 obtain ⟨h1, h2, h3, h4, h5⟩ := twice_fit (inP_W hw)
 have hl : (prsL X w s a0 a1).length = (128 / (2 * w)).toNat := by
  unfold prsL
  rw [pairL_len, listF_length, h5, h4]
  omega
 simp only [okOf, h2, hl, decide_true, Bool.true_and, List.all_eq_true]
 intro z hz
 obtain ⟨x, y, rfl⟩ := pairL_mem _ hz
 exact decide_eq_true (and_le _ _)
theorem t_vPrs : Snd 200 (VprsS extN) := by
 refine Sound.of_pt fun ds d hd => ?_
 split at hd
 ·rename_i w s a0 a1
  cases hd
  cases hw : inP w
  ·exact (execFn_sound (ann := fun _ => []) TableOK.nil mixed Tryz.func200 (by kernel_rfl) 50).pt ((vPrs_no w s a0 a1).trans (inP_no hw))
  ·have S := execFn_sound (P := Tryz.prog) (G := G0) (ann := annP) (TableOK.cons All28.left (TableOK.cons c_Ext (TableOK.cons t_Two (TableOK.cons (OfJ Of30) TableOK.nil)))) mixed Tryz.func200 (by kernel_rfl) 50
   have e1 := prs_eq hw s a0 a1
   have e2 := okOf_prs hw extN s a0 a1
   rcases inP_cases hw with rfl | rfl
   ·exact S.pt ((vPrs_8 extN extR twoN twoR s a0 a1).trans (by rw [e1, show okOf 16 (prsL extN 8 s a0 a1) = true from e2]; rfl))
   ·exact S.pt ((vPrs_16 extN extR twoN twoR s a0 a1).trans (by rw [e1, show okOf 32 (prsL extN 16 s a0 a1) = true from e2]; rfl))
 ·cases hd
def quadL (f : BitVec 64 → BitVec 64 → BitVec 64 → BitVec 64 → BitVec 64) : List (BitVec 64) → List (BitVec 64) → List (BitVec 64)
 | x :: y :: l, u :: v :: k => f x y u v :: quadL f l k
 | _, _ => []
def dotN (x y u v : BitVec 64) : BitVec 64 := BitVec.setWidth 64 (BitVec.ofInt 32 (IntKind.i32.wrap (IntKind.i32.wrap (sOfU .i16 x) * IntKind.i32.wrap (sOfU .i16 u))) + BitVec.ofInt 32 (IntKind.i32.wrap (IntKind.i32.wrap (sOfU .i16 y) * IntKind.i32.wrap (sOfU .i16 v))))
def dotR (x y u v : BitVec 64) : BitVec 64 := BitVec.ofInt 64 (IntKind.i64.wrap (IntKind.i64.wrap (sgnF 16 x * sgnF 16 u) + IntKind.i64.wrap (sgnF 16 y * sgnF 16 v))) &&& maskF 32
theorem quadL_id {f g : BitVec 64 → BitVec 64 → BitVec 64 → BitVec 64 → BitVec 64} : ∀ l k : List (BitVec 64), (∀ x ∈ l, ∀ y ∈ l, ∀ u ∈ k, ∀ v ∈ k, f x y u v = g x y u v) → quadL f l k = quadL g l k
 | x :: y :: l, u :: v :: k, h => by
  simp only [quadL]
  rw [h x (by simp) y (by simp) u (by simp) v (by simp), quadL_id l k fun a ha b hb c hc d hd => h a (by simp [ha]) b (by simp [hb]) c (by simp [hc]) d (by simp [hd])]
 | [], _, _ => by simp [quadL]
 | [_], _, _ => by simp [quadL]
 | _ :: _ :: _, [], _ => by simp [quadL]
 | _ :: _ :: _, [_], _ => by simp [quadL]
theorem quadL_mem {f : BitVec 64 → BitVec 64 → BitVec 64 → BitVec 64 → BitVec 64} {z : BitVec 64} : ∀ l k : List (BitVec 64), z ∈ quadL f l k → ∃ x y u v, z = f x y u v
 | x :: y :: l, u :: v :: k, h => by
  simp only [quadL, List.mem_cons] at h
  rcases h with rfl | h
  ·exact ⟨x, y, u, v, rfl⟩
  ·exact quadL_mem l k h
 | [], _, h => by simp [quadL] at h
 | [_], _, h => by simp [quadL] at h
 | _ :: _ :: _, [], h => by simp [quadL] at h
 | _ :: _ :: _, [_], h => by simp [quadL] at h
def dotL (a0 a1 b0 b1 : BitVec 64) : List (BitVec 64) := quadL dotR (listF a0 a1 16) (listF b0 b1 16)
noncomputable def VdotS : Ev.Spec := joined fun | [.agg [.u64 a0, .u64 a1], .agg [.u64 b0, .u64 b1]] => some (eachB true 32 (dotL a0 a1 b0 b1)) | _ => none
def annD : Nat → List Nat := fun | 5 => [4, 6, 8, 10, 11] | _ => []
theorem vDot_nf (a0 a1 b0 b1 : BitVec 64) : ex [(182, left allF), (79, OfS)] annD Tryz.f201 [vec a0 a1, vec b0 b1] some =
 some (eachB (okOf 32 (quadL dotN (listF a0 a1 16) (listF b0 b1 16))) 32 (quadL dotN (listF a0 a1 16) (listF b0 b1 16))) := by kernel_rfl
theorem wrap32 {n : Int} (h1 : -2147483648 ≤ n) (h2 : n < 2147483648) : IntKind.i32.wrap n = n := by
 have : IntKind.i32.wrap n = if (n % 4294967296) ≥ 2147483648 then n % 4294967296 - 4294967296 else n % 4294967296 := by simp [IntKind.wrap, IntKind.signed, IntKind.bits]
 rw [this]
 split <;> omega
theorem s16 {z : BitVec 64} (hz : fitF 16 z = true) : IntKind.i32.wrap (sOfU .i16 z) = sgnF 16 z ∧ -32768 ≤ sgnF 16 z ∧ sgnF 16 z ≤ 32768 := by
 have h1 := (fitF_nat hz).2
 rw [pw16] at h1
 have h2 : sgnF 16 z = if 2 * (z.toNat : Int) < 65536 then (z.toNat : Int) else (z.toNat : Int) - 65536 := rfl
 have h3 : sOfU .i16 z = (z.setWidth 16).toInt := rfl
 have h4 : (z.setWidth 16).toInt = sgnF 16 z := by
  rw [h2, BitVec.toInt_eq_toNat_cond, BitVec.toNat_setWidth]
  have : z.toNat % 2 ^ 16 = z.toNat := Nat.mod_eq_of_lt (by omega)
  rw [this]
  split <;> split <;> omega
 rw [h3, h4]
 have h5 : -32768 ≤ sgnF 16 z ∧ sgnF 16 z ≤ 32768 := by rw [h2]; split <;> omega
 exact ⟨wrap32 (by omega) (by omega), h5.1, h5.2⟩
theorem mul16 {a b : Int} (h1 : -32768 ≤ a) (h2 : a ≤ 32768) (h3 : -32768 ≤ b) (h4 : b ≤ 32768) : -1073741824 ≤ a * b ∧ a * b ≤ 1073741824 := by
 have e : (a * b).natAbs = a.natAbs * b.natAbs := Int.natAbs_mul a b
 have : a.natAbs * b.natAbs ≤ 32768 * 32768 := Nat.mul_le_mul (by omega) (by omega)
 omega
theorem dot_eq {x y u v : BitVec 64} (hx : fitF 16 x = true) (hy : fitF 16 y = true) (hu : fitF 16 u = true) (hv : fitF 16 v = true) : dotN x y u v = dotR x y u v := by
 obtain ⟨ex, x1, x2⟩ := s16 hx
 obtain ⟨ey, y1, y2⟩ := s16 hy
 obtain ⟨eu, u1, u2⟩ := s16 hu
 obtain ⟨ev, v1, v2⟩ := s16 hv
 obtain ⟨p1, p2⟩ := mul16 x1 x2 u1 u2
 obtain ⟨q1, q2⟩ := mul16 y1 y2 v1 v2
 unfold dotN dotR
 rw [ex, ey, eu, ev]
 generalize sgnF 16 x * sgnF 16 u = p at *
 generalize sgnF 16 y * sgnF 16 v = q at *
 rw [wrap32 (by omega) (by omega), wrap32 (by omega) (by omega), wrap_in (n := p) (by omega) (by omega), wrap_in (n := q) (by omega) (by omega), wrap_in (by omega) (by omega)]
 refine eq_nat ?_
 rw [num_nat (t := 32) (by decide), BitVec.toNat_setWidth, ← BitVec.ofInt_add, BitVec.toNat_ofInt]
 rw [pw32]
 show ((((p + q) % 4294967296).toNat % 18446744073709551616 : Nat) : Int) = (p + q) % 4294967296
 omega
theorem dotL_eq (a0 a1 b0 b1 : BitVec 64) : quadL dotN (listF a0 a1 16) (listF b0 b1 16) = dotL a0 a1 b0 b1 :=
 quadL_id _ _ fun x hx y hy u hu v hv => dot_eq (list_fit (by decide) x hx) (list_fit (by decide) y hy) (list_fit (by decide) u hu) (list_fit (by decide) v hv)
theorem okOf_dot (a0 a1 b0 b1 : BitVec 64) : okOf 32 (dotL a0 a1 b0 b1) = true := by
 have hl : (dotL a0 a1 b0 b1).length = 4 := rfl
 simp only [okOf, hl, Bool.and_eq_true, List.all_eq_true, decide_eq_true_eq]
 refine ⟨⟨by decide, by decide⟩, fun z hz => ?_⟩
 obtain ⟨x, y, u, v, rfl⟩ := quadL_mem _ _ hz
 exact and_le _ _
theorem t_vDot : Snd 201 VdotS := by
 refine Sound.of_pt fun ds d hd => ?_
 split at hd
 ·rename_i a0 a1 b0 b1
  cases hd
  refine (execFn_sound (P := Tryz.prog) (G := G0) (ann := annD) (TableOK.cons All28.left (TableOK.cons (OfJ Of30) TableOK.nil)) mixed Tryz.func201 (by kernel_rfl) 50).pt ((vDot_nf a0 a1 b0 b1).trans ?_)
  rw [dotL_eq, okOf_dot]
 ·cases hd
end Go.L23

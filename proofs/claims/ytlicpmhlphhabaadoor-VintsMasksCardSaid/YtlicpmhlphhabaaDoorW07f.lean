/-
  Part of the proof; what its functions and lemmas say stands in the text.
-/
import Derived.Test.YtlicpmhlphhabaaDoorW07e
import Derived.Test.YtlicpmhlphhabaaDoorS07E
set_option linter.unusedSimpArgs false
set_option linter.unusedVariables false
/-!
Vectors of whole numbers: operators of one, moves, comparisons.
-/
namespace Go.L07
open Go.Ev Go.Proofs Go.RowKit Go.Wh

/-! operators of one -/
def inOne (o : BitVec 8) : Bool := o == 29#8 || o == 30#8 || o == 28#8 || o == 31#8
def caseO (o : BitVec 8) (e a : Option D) : Option D := if (o == 29#8) = true then a else if (o == 30#8) = true then a else if (o == 28#8) = true then a else if (o == 31#8) = true then a else e
def caseN (o : BitVec 8) (e a : Option D) : Option D := if (!(o == 29#8)) = true then if (!(o == 30#8)) = true then if (!(o == 28#8)) = true then if (!(o == 31#8)) = true then e else a else a else a else a
theorem caseO_eq (o : BitVec 8) (e a : Option D) : caseO o e a = if inOne o = true then a else e := by
  unfold caseO inOne
  cases o == 29#8 <;> cases o == 30#8 <;> cases o == 28#8 <;> cases o == 31#8 <;> rfl
theorem caseN_eq (o : BitVec 8) (e a : Option D) : caseN o e a = if inOne o = true then a else e := by
  unfold caseN inOne
  cases o == 29#8 <;> cases o == 30#8 <;> cases o == 28#8 <;> cases o == 31#8 <;> rfl
def lU (U : B1) (o : BitVec 8) (w : Int) (a0 a1 : BitVec 64) : List (BitVec 64) := (listF a0 a1 w).map (U o w)
def rU (Q : E1) (o : BitVec 8) (w : Int) (a0 a1 : BitVec 64) : List Int := (listF a0 a1 w).map (Q o w)
def okU (U : B1) (Q : E1) (o : BitVec 8) (w : Int) (a0 a1 : BitVec 64) : Bool := inOne o && okEach w (rU Q o w a0 a1) (lU U o w a0 a1)
theorem okU_no {w : Int} (h : okW w = false) (U : B1) (Q : E1) (o : BitVec 8) (a0 a1 : BitVec 64) : okU U Q o w a0 a1 = false := by simp [okU, okEach, okOf, h]
noncomputable def VoneS (U : B1) (Q : E1) : Ev.Spec := joined fun | [.u8 o, .i .i64 w, .agg [.u64 a0, .u64 a1]] => some (eachB (okU U Q o w a0 a1) w (lU U o w a0 a1)) | _ => none
theorem vOne_nf (U : B1) (Q : E1) (o : BitVec 8) (w : Int) (a0 a1 : BitVec 64) : ex [(42, each1S U Q)] (fun _ => []) Tryd.f19 [.u8 o, .i .i64 w, vec a0 a1] some = caseO o (some ofErr) (some (eachV w (rU Q o w a0 a1) (lU U o w a0 a1))) := by kernel_rfl
theorem t_vOne {U : B1} {Q : E1} (h : Snd 59 (OneH U Q)) : Snd 19 (VoneS U Q) := by
  refine Sound.join (execFn_sound (ann := fun _ => []) (TableOK.cons (t_each1 h) TableOK.nil) mixed Tryd.func19 (by kernel_rfl) 50) fun ds d hd => ?_
  split at hd
  · rename_i o w a0 a1
    cases hd
    refine (vOne_nf U Q o w a0 a1).trans ?_
    rw [caseO_eq]
    unfold okU eachV
    cases inOne o <;> rfl
  · cases hd
def annR1 : Nat → List Nat := fun | 5 => [0, 1, 6, 8, 9] | _ => []
theorem rOne_8 (U : B1) (Q : E1) (o : BitVec 8) (a0 a1 : BitVec 64) : ex [(44, widthS), (24, listS), (60, OneH U Q), (46, vecS)] annR1 Tryd.f20 [.u8 o, .i .i64 8, vec a0 a1] some =
  caseN o (some ofErr) (some (eachB true 8 (lU U o 8 a0 a1))) := by kernel_rfl
theorem rOne_16 (U : B1) (Q : E1) (o : BitVec 8) (a0 a1 : BitVec 64) : ex [(44, widthS), (24, listS), (60, OneH U Q), (46, vecS)] annR1 Tryd.f20 [.u8 o, .i .i64 16, vec a0 a1] some =
  caseN o (some ofErr) (some (eachB true 16 (lU U o 16 a0 a1))) := by kernel_rfl
theorem rOne_32 (U : B1) (Q : E1) (o : BitVec 8) (a0 a1 : BitVec 64) : ex [(44, widthS), (24, listS), (60, OneH U Q), (46, vecS)] annR1 Tryd.f20 [.u8 o, .i .i64 32, vec a0 a1] some =
  caseN o (some ofErr) (some (eachB true 32 (lU U o 32 a0 a1))) := by kernel_rfl
theorem rOne_64 (U : B1) (Q : E1) (o : BitVec 8) (a0 a1 : BitVec 64) : ex [(44, widthS), (24, listS), (60, OneH U Q), (46, vecS)] annR1 Tryd.f20 [.u8 o, .i .i64 64, vec a0 a1] some =
  caseN o (some ofErr) (some (eachB true 64 (lU U o 64 a0 a1))) := by kernel_rfl
theorem rOne_no (o : BitVec 8) (w : Int) (a0 a1 : BitVec 64) : ex [(44, widthS)] (fun _ => []) Tryd.f20 [.u8 o, .i .i64 w, vec a0 a1] some =
  if (!okW w) = false then caseN o (some ofErr) none else some ofErr := by kernel_rfl
/-- What is answered has no error, and fits. -/
def Fits1 (U : B1) (Q : E1) : Prop := ∀ o w a, fitF w a = true → inOne o = true → Q o w a = 0 ∧ U o w a ≤ maskF w
theorem list_fit {x y : BitVec 64} {w : Int} (h : okW w = true) : ∀ z ∈ listF x y w, fitF w z = true := by
  intro z hz
  have := okOf_list x y h
  simp only [okOf, Bool.and_eq_true, List.all_eq_true] at this
  simp only [fitF, h, Bool.true_and]
  exact this.2 z hz
theorem okU_yes {U : B1} {Q : E1} (hF : Fits1 U Q) {w : Int} (hw : okW w = true) {o : BitVec 8} (ho : inOne o = true) (a0 a1 : BitVec 64) : okU U Q o w a0 a1 = true := by
  have h := list_fit (x := a0) (y := a1) hw
  simp only [okU, okEach, okOf, ho, hw, Bool.true_and, Bool.and_eq_true, List.all_eq_true, decide_eq_true_eq, rU, lU, List.length_map, listF_length, List.mem_map]
  refine ⟨?_, trivial, ?_⟩
  · rintro _ ⟨z, hz, rfl⟩
    simp [(hF o w z (h z hz) ho).1]
  · rintro _ ⟨z, hz, rfl⟩
    exact (hF o w z (h z hz) ho).2
theorem rOne_fin {U : B1} {Q : E1} (hF : Fits1 U Q) {w : Int} (hw : okW w = true) (o : BitVec 8) (a0 a1 : BitVec 64) : caseN o (some ofErr) (some (eachB true w (lU U o w a0 a1))) = some (eachB (okU U Q o w a0 a1) w (lU U o w a0 a1)) := by
  rw [caseN_eq]
  cases ho : inOne o
  · have : okU U Q o w a0 a1 = false := by simp [okU, ho]
    rw [this]; rfl
  · rw [okU_yes hF hw ho]; rfl
theorem t_rvOne {U : B1} {Q : E1} (h : Snd 60 (OneH U Q)) (hF : Fits1 U Q) : Snd 20 (VoneS U Q) := by
  refine Sound.of_pt fun ds d hd => ?_
  split at hd
  · rename_i o w a0 a1
    cases hd
    cases hw : okW w
    · rw [okU_no hw]
      refine (execFn_sound (ann := fun _ => []) (TableOK.cons t_Width TableOK.nil) mixed Tryd.func20 (by kernel_rfl) 50).pt ((rOne_no o w a0 a1).trans ?_)
      rw [hw]; rfl
    · have S := execFn_sound (P := Tryd.prog) (G := G0) (ann := annR1) (TableOK.cons t_Width (TableOK.cons list35 (TableOK.cons h (TableOK.cons vec45 TableOK.nil)))) mixed Tryd.func20 (by kernel_rfl) 50
      rcases okW_cases hw with rfl | rfl | rfl | rfl
      · exact S.pt ((rOne_8 U Q o a0 a1).trans (rOne_fin hF hw o a0 a1))
      · exact S.pt ((rOne_16 U Q o a0 a1).trans (rOne_fin hF hw o a0 a1))
      · exact S.pt ((rOne_32 U Q o a0 a1).trans (rOne_fin hF hw o a0 a1))
      · exact S.pt ((rOne_64 U Q o a0 a1).trans (rOne_fin hF hw o a0 a1))
  · cases hd

/-! moves -/
def inSh (o : BitVec 8) : Bool := o == 11#8 || o == 12#8 || o == 13#8
def caseS (o : BitVec 8) (e a : Option D) : Option D := if (o == 11#8) = true then a else if (o == 12#8) = true then a else if (o == 13#8) = true then a else e
def caseM (o : BitVec 8) (e a : Option D) : Option D := if (!(o == 11#8)) = true then if (!(o == 12#8)) = true then if (!(o == 13#8)) = true then e else a else a else a
theorem caseS_eq (o : BitVec 8) (e a : Option D) : caseS o e a = if inSh o = true then a else e := by
  unfold caseS inSh
  cases o == 11#8 <;> cases o == 12#8 <;> cases o == 13#8 <;> rfl
theorem caseM_eq (o : BitVec 8) (e a : Option D) : caseM o e a = if inSh o = true then a else e := by
  unfold caseM inSh
  cases o == 11#8 <;> cases o == 12#8 <;> cases o == 13#8 <;> rfl
def lS (N : B2) (o : BitVec 8) (w : Int) (a0 a1 n : BitVec 64) : List (BitVec 64) := (listF a0 a1 w).map (fun x => N o w x (n % BitVec.ofInt 64 w))
def rS (R : E2) (o : BitVec 8) (w : Int) (a0 a1 n : BitVec 64) : List Int := (listF a0 a1 w).map (fun x => R o w x (n % BitVec.ofInt 64 w))
def okMv (N : B2) (R : E2) (o : BitVec 8) (w : Int) (a0 a1 n : BitVec 64) : Bool := inSh o && okEach w (rS R o w a0 a1 n) (lS N o w a0 a1 n)
theorem okMv_no {w : Int} (h : okW w = false) (N : B2) (R : E2) (o : BitVec 8) (a0 a1 n : BitVec 64) : okMv N R o w a0 a1 n = false := by simp [okMv, okEach, okOf, h]
noncomputable def VshS (N : B2) (R : E2) : Ev.Spec := joined fun | [.u8 o, .i .i64 w, .agg [.u64 a0, .u64 a1], .u64 n] => some (eachB (okMv N R o w a0 a1 n) w (lS N o w a0 a1 n)) | _ => none
theorem vSh_nf (N : B2) (R : E2) (o : BitVec 8) (w : Int) (a0 a1 n : BitVec 64) : ex [(42, eachSS N R)] (fun _ => []) Tryd.f21 [.u8 o, .i .i64 w, vec a0 a1, .u64 n] some = caseS o (some ofErr) (if (!okW w || okW w) = true then some (eachV w (rS R o w a0 a1 n) (lS N o w a0 a1 n)) else none) := by kernel_rfl
theorem t_vSh {N : B2} {R : E2} (h : Snd 18 (TwoG N R)) : Snd 21 (VshS N R) := by
  refine Sound.join (execFn_sound (ann := fun _ => []) (TableOK.cons (t_eachS h) TableOK.nil) mixed Tryd.func21 (by kernel_rfl) 50) fun ds d hd => ?_
  split at hd
  · rename_i o w a0 a1 n
    cases hd
    refine (vSh_nf N R o w a0 a1 n).trans ?_
    have e : (!okW w || okW w) = true := by cases okW w <;> rfl
    rw [if_pos e, caseS_eq]
    unfold okMv eachV
    cases inSh o <;> rfl
  · cases hd
def annRS : Nat → List Nat := fun | 5 => [0, 1, 3, 8, 10, 11] | _ => []
theorem rSh_8 (N : B2) (R : E2) (o : BitVec 8) (a0 a1 n : BitVec 64) : ex [(44, widthS), (24, listS), (45, TwoG N R), (46, vecS)] annRS Tryd.f22 [.u8 o, .i .i64 8, vec a0 a1, .u64 n] some =
  caseM o (some ofErr) (some (eachB true 8 (lS N o 8 a0 a1 n))) := by kernel_rfl
theorem rSh_16 (N : B2) (R : E2) (o : BitVec 8) (a0 a1 n : BitVec 64) : ex [(44, widthS), (24, listS), (45, TwoG N R), (46, vecS)] annRS Tryd.f22 [.u8 o, .i .i64 16, vec a0 a1, .u64 n] some =
  caseM o (some ofErr) (some (eachB true 16 (lS N o 16 a0 a1 n))) := by kernel_rfl
theorem rSh_32 (N : B2) (R : E2) (o : BitVec 8) (a0 a1 n : BitVec 64) : ex [(44, widthS), (24, listS), (45, TwoG N R), (46, vecS)] annRS Tryd.f22 [.u8 o, .i .i64 32, vec a0 a1, .u64 n] some =
  caseM o (some ofErr) (some (eachB true 32 (lS N o 32 a0 a1 n))) := by kernel_rfl
theorem rSh_64 (N : B2) (R : E2) (o : BitVec 8) (a0 a1 n : BitVec 64) : ex [(44, widthS), (24, listS), (45, TwoG N R), (46, vecS)] annRS Tryd.f22 [.u8 o, .i .i64 64, vec a0 a1, .u64 n] some =
  caseM o (some ofErr) (some (eachB true 64 (lS N o 64 a0 a1 n))) := by kernel_rfl
theorem rSh_no (o : BitVec 8) (w : Int) (a0 a1 n : BitVec 64) : ex [(44, widthS)] (fun _ => []) Tryd.f22 [.u8 o, .i .i64 w, vec a0 a1, .u64 n] some =
  if (!okW w) = false then caseM o (some ofErr) none else some ofErr := by kernel_rfl
def FitsS (N : B2) (R : E2) : Prop := ∀ o w a n, fitF w a = true → inSh o = true → R o w a (n % BitVec.ofInt 64 w) = 0 ∧ N o w a (n % BitVec.ofInt 64 w) ≤ maskF w
theorem okMv_yes {N : B2} {R : E2} (hF : FitsS N R) {w : Int} (hw : okW w = true) {o : BitVec 8} (ho : inSh o = true) (a0 a1 n : BitVec 64) : okMv N R o w a0 a1 n = true := by
  have h := list_fit (x := a0) (y := a1) hw
  simp only [okMv, okEach, okOf, ho, hw, Bool.true_and, Bool.and_eq_true, List.all_eq_true, decide_eq_true_eq, rS, lS, List.length_map, listF_length, List.mem_map]
  refine ⟨?_, trivial, ?_⟩
  · rintro _ ⟨z, hz, rfl⟩
    simp [(hF o w z n (h z hz) ho).1]
  · rintro _ ⟨z, hz, rfl⟩
    exact (hF o w z n (h z hz) ho).2
theorem rSh_fin {N : B2} {R : E2} (hF : FitsS N R) {w : Int} (hw : okW w = true) (o : BitVec 8) (a0 a1 n : BitVec 64) : caseM o (some ofErr) (some (eachB true w (lS N o w a0 a1 n))) = some (eachB (okMv N R o w a0 a1 n) w (lS N o w a0 a1 n)) := by
  rw [caseM_eq]
  cases ho : inSh o
  · have : okMv N R o w a0 a1 n = false := by simp [okMv, ho]
    rw [this]; rfl
  · rw [okMv_yes hF hw ho]; rfl
theorem t_rvSh {N : B2} {R : E2} (h : Snd 45 (TwoG N R)) (hF : FitsS N R) : Snd 22 (VshS N R) := by
  refine Sound.of_pt fun ds d hd => ?_
  split at hd
  · rename_i o w a0 a1 n
    cases hd
    cases hw : okW w
    · rw [okMv_no hw]
      refine (execFn_sound (ann := fun _ => []) (TableOK.cons t_Width TableOK.nil) mixed Tryd.func22 (by kernel_rfl) 50).pt ((rSh_no o w a0 a1 n).trans ?_)
      rw [hw]; rfl
    · have S := execFn_sound (P := Tryd.prog) (G := G0) (ann := annRS) (TableOK.cons t_Width (TableOK.cons list35 (TableOK.cons h (TableOK.cons vec45 TableOK.nil)))) mixed Tryd.func22 (by kernel_rfl) 50
      rcases okW_cases hw with rfl | rfl | rfl | rfl
      · exact S.pt ((rSh_8 N R o a0 a1 n).trans (rSh_fin hF hw o a0 a1 n))
      · exact S.pt ((rSh_16 N R o a0 a1 n).trans (rSh_fin hF hw o a0 a1 n))
      · exact S.pt ((rSh_32 N R o a0 a1 n).trans (rSh_fin hF hw o a0 a1 n))
      · exact S.pt ((rSh_64 N R o a0 a1 n).trans (rSh_fin hF hw o a0 a1 n))
  · cases hd
theorem fits1_one : Fits1 oneN oneR := by
  intro o w a ha ho
  have hm : mayF w [a] = true := by
    simp only [fitF, Bool.and_eq_true] at ha
    simp [mayF, ha.1, of_decide_eq_true ha.2]
  refine ⟨?_, ?_⟩
  · unfold oneR
    rw [if_pos hm]
    simp only [inOne, Bool.or_eq_true, beq_iff_eq] at ho
    rcases ho with ((rfl | rfl) | rfl) | rfl <;> rfl
  · refine le_of_fit ?_
    unfold oneN ifF
    rw [if_pos hm]
    exact one_fits ha
theorem mod_fit {w : Int} (hw : okW w = true) (n : BitVec 64) : fitF w (n % BitVec.ofInt 64 w) = true := by
  refine fit_of_nat hw ?_
  rw [BitVec.toNat_umod]
  rcases okW_cases hw with rfl | rfl | rfl | rfl
  · show ((n.toNat % 8 : Nat) : Int) < 256; omega
  · show ((n.toNat % 16 : Nat) : Int) < 65536; omega
  · show ((n.toNat % 32 : Nat) : Int) < 4294967296; omega
  · show ((n.toNat % 64 : Nat) : Int) < 18446744073709551616; omega
theorem fitsS_two : FitsS twoN twoR := by
  intro o w a n ha ho
  have hw := (fitF_nat ha).1
  have hb := mod_fit hw n
  generalize n % BitVec.ofInt 64 w = b at hb
  have hm : mayF w [a, b] = true := by
    simp only [fitF, Bool.and_eq_true] at ha hb
    simp [mayF, ha.1, of_decide_eq_true ha.2, of_decide_eq_true hb.2]
  simp only [inSh, Bool.or_eq_true, beq_iff_eq] at ho
  refine ⟨?_, ?_⟩
  · rcases ho with (rfl | rfl) | rfl <;> (unfold twoR; rw [if_pos hm]; rfl)
  · refine le_of_fit ?_
    unfold twoN ifF
    rw [if_pos hm]
    rcases ho with (rfl | rfl) | rfl <;> exact two_fits ha hb (by decide) (by decide) (by decide) (by decide)
theorem t_V19 : Snd 19 (VoneS oneN oneR) := t_vOne t_One
theorem t_V20 : Snd 20 (VoneS oneN oneR) := t_rvOne t_rOne fits1_one
theorem t_V21 : Snd 21 (VshS twoN twoR) := t_vSh t_Two
theorem t_V22 : Snd 22 (VshS twoN twoR) := t_rvSh t_rTwo fitsS_two

/-! comparisons, by the program -/
def lV (C : C2) (E : E2) (o : BitVec 8) (w : Int) (a0 a1 b0 b1 : BitVec 64) : List (BitVec 64) := List.zipWith (thV C E o w) (listF a0 a1 w) (listF b0 b1 w)
def okV (C : C2) (E : E2) (o : BitVec 8) (w : Int) (a0 a1 b0 b1 : BitVec 64) : Bool := okEach w (rT E o w a0 a1 b0 b1) (lV C E o w a0 a1 b0 b1)
noncomputable def VthanS (C : C2) (E : E2) : Ev.Spec := joined fun | [.u8 o, .i .i64 w, .agg [.u64 a0, .u64 a1], .agg [.u64 b0, .u64 b1]] => some (eachV w (rT E o w a0 a1 b0 b1) (lV C E o w a0 a1 b0 b1)) | _ => none
theorem vThan_8 (C : C2) (E : E2) (o : BitVec 8) (a0 a1 b0 b1 : BitVec 64) : ex [(41, left allF), (42, eachTS C E)] (fun _ => []) Tryd.f26 [.u8 o, .i .i64 8, vec a0 a1, vec b0 b1] some =
  some (eachV 8 (rT E o 8 a0 a1 b0 b1) (lV C E o 8 a0 a1 b0 b1)) := by kernel_rfl
theorem vThan_16 (C : C2) (E : E2) (o : BitVec 8) (a0 a1 b0 b1 : BitVec 64) : ex [(41, left allF), (42, eachTS C E)] (fun _ => []) Tryd.f26 [.u8 o, .i .i64 16, vec a0 a1, vec b0 b1] some =
  some (eachV 16 (rT E o 16 a0 a1 b0 b1) (lV C E o 16 a0 a1 b0 b1)) := by kernel_rfl
theorem vThan_32 (C : C2) (E : E2) (o : BitVec 8) (a0 a1 b0 b1 : BitVec 64) : ex [(41, left allF), (42, eachTS C E)] (fun _ => []) Tryd.f26 [.u8 o, .i .i64 32, vec a0 a1, vec b0 b1] some =
  some (eachV 32 (rT E o 32 a0 a1 b0 b1) (lV C E o 32 a0 a1 b0 b1)) := by kernel_rfl
theorem vThan_64 (C : C2) (E : E2) (o : BitVec 8) (a0 a1 b0 b1 : BitVec 64) : ex [(41, left allF), (42, eachTS C E)] (fun _ => []) Tryd.f26 [.u8 o, .i .i64 64, vec a0 a1, vec b0 b1] some =
  some (eachV 64 (rT E o 64 a0 a1 b0 b1) (lV C E o 64 a0 a1 b0 b1)) := by kernel_rfl
theorem vThan_no (o : BitVec 8) (w : Int) (a0 a1 b0 b1 : BitVec 64) : ex [(41, right allF)] (fun _ => []) Tryd.f26 [.u8 o, .i .i64 w, vec a0 a1, vec b0 b1] some =
  if (!okW w) = true then some ofErr else none := by kernel_rfl
theorem t_vThan {C : C2} {E : E2} (h : Snd 66 (ThanH C E)) : Snd 26 (VthanS C E) := by
  refine Sound.of_pt fun ds d hd => ?_
  split at hd
  · rename_i o w a0 a1 b0 b1
    cases hd
    cases hw : okW w
    · rw [each_no hw]
      refine (execFn_sound (ann := fun _ => []) (TableOK.cons All28.right TableOK.nil) mixed Tryd.func26 (by kernel_rfl) 50).pt ((vThan_no o w a0 a1 b0 b1).trans ?_)
      rw [hw]; rfl
    · have S := execFn_sound (P := Tryd.prog) (G := G0) (ann := fun _ => []) (TableOK.cons All28.left (TableOK.cons (t_eachT h) TableOK.nil)) mixed Tryd.func26 (by kernel_rfl) 50
      rcases okW_cases hw with rfl | rfl | rfl | rfl
      · exact S.pt (vThan_8 C E o a0 a1 b0 b1)
      · exact S.pt (vThan_16 C E o a0 a1 b0 b1)
      · exact S.pt (vThan_32 C E o a0 a1 b0 b1)
      · exact S.pt (vThan_64 C E o a0 a1 b0 b1)
  · cases hd
end Go.L07

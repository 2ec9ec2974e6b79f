/-
  Part of the proof; what its functions and lemmas say stands in the text.
-/
import Derived.Test.YtlicpmhlphhabaaDoorW07b
import Derived.Test.YtlicpmhlphhabaaDoorV07D
set_option linter.unusedSimpArgs false
set_option linter.unusedVariables false
/-!
Vectors of whole numbers: operators of two, of one, moves.
-/
namespace Go.L07
open Go.Ev Go.Proofs Go.RowKit Go.Wh

def exclB (o : BitVec 8) : Bool := o == 4#8 || o == 5#8 || o == 6#8 || o == 7#8 || o == 11#8 || o == 12#8 || o == 13#8 || o == 14#8 || o == 15#8
def exclG (o : BitVec 8) (e a : Option D) : Option D :=
  if decide (BitVec.ofInt 8 4 ≤ o) = true then
    if decide (o ≤ BitVec.ofInt 8 7) = false then
      if decide (BitVec.ofInt 8 11 ≤ o) = true then if decide (o ≤ BitVec.ofInt 8 15) = true then e else a else a
    else e
  else if decide (BitVec.ofInt 8 11 ≤ o) = true then if decide (o ≤ BitVec.ofInt 8 15) = true then e else a else a
def exclR (o : BitVec 8) (e a : Option D) : Option D :=
  if (o == 4#8) = true then e else if (o == 5#8) = true then e else if (o == 6#8) = true then e else if (o == 7#8) = true then e else if (o == 11#8) = true then e else if (o == 12#8) = true then e else if (o == 13#8) = true then e else if (o == 14#8) = true then e else if (o == 15#8) = true then e else a
theorem exclB_dec : ∀ o : BitVec 8, exclB o = (decide (BitVec.ofInt 8 4 ≤ o) && decide (o ≤ BitVec.ofInt 8 7) || decide (BitVec.ofInt 8 11 ≤ o) && decide (o ≤ BitVec.ofInt 8 15)) := by decide +kernel
theorem exclG_eq (o : BitVec 8) (e a : Option D) : exclG o e a = if exclB o = true then e else a := by
  rw [exclB_dec]
  unfold exclG
  generalize decide (BitVec.ofInt 8 4 ≤ o) = c1
  generalize decide (o ≤ BitVec.ofInt 8 7) = c2
  generalize decide (BitVec.ofInt 8 11 ≤ o) = c3
  generalize decide (o ≤ BitVec.ofInt 8 15) = c4
  cases c1 <;> cases c2 <;> cases c3 <;> cases c4 <;> rfl
theorem exclR_eq (o : BitVec 8) (e a : Option D) : exclR o e a = if exclB o = true then e else a := by
  unfold exclR exclB
  generalize (o == 4#8) = c1
  generalize (o == 5#8) = c2
  generalize (o == 6#8) = c3
  generalize (o == 7#8) = c4
  generalize (o == 11#8) = c5
  generalize (o == 12#8) = c6
  generalize (o == 13#8) = c7
  generalize (o == 14#8) = c8
  generalize (o == 15#8) = c9
  cases c1
  · cases c2
    · cases c3
      · cases c4
        · cases c5
          · cases c6
            · cases c7
              · cases c8
                · cases c9 <;> rfl
                · rfl
              · rfl
            · rfl
          · rfl
        · rfl
      · rfl
    · rfl
  · rfl
def lT (N : B2) (o : BitVec 8) (w : Int) (a0 a1 b0 b1 : BitVec 64) : List (BitVec 64) := List.zipWith (N o w) (listF a0 a1 w) (listF b0 b1 w)
def rT (R : E2) (o : BitVec 8) (w : Int) (a0 a1 b0 b1 : BitVec 64) : List Int := List.zipWith (R o w) (listF a0 a1 w) (listF b0 b1 w)
def okT (N : B2) (R : E2) (o : BitVec 8) (w : Int) (a0 a1 b0 b1 : BitVec 64) : Bool := !exclB o && okEach w (rT R o w a0 a1 b0 b1) (lT N o w a0 a1 b0 b1)
noncomputable def VtwoS (N : B2) (R : E2) : Ev.Spec := joined fun | [.u8 o, .i .i64 w, .agg [.u64 a0, .u64 a1], .agg [.u64 b0, .u64 b1]] => some (eachB (okT N R o w a0 a1 b0 b1) w (lT N o w a0 a1 b0 b1)) | _ => none
theorem okT_no {w : Int} (h : okW w = false) (N : B2) (R : E2) (o : BitVec 8) (a0 a1 b0 b1 : BitVec 64) : okT N R o w a0 a1 b0 b1 = false := by simp [okT, okEach, okOf, h]
noncomputable def each2S (N : B2) (R : E2) : Ev.Spec := guarded fun
  | [.i .i64 w, .agg [.u64 a0, .u64 a1], .clo 43 [.ref [.u8 o], .ref [.i .i64 v], .ref [.sl64 y]]] => some (!okW w || decide (y.length = (128 / w).toNat), eachV w (List.zipWith (R o v) (listF a0 a1 w) y) (List.zipWith (N o v) (listF a0 a1 w) y))
  | _ => none
noncomputable def each1S (U : B1) (Q : E1) : Ev.Spec := joined fun
  | [.i .i64 w, .agg [.u64 a0, .u64 a1], .clo 58 [.ref [.u8 o], .ref [.i .i64 v]]] => some (eachV w ((listF a0 a1 w).map (Q o v)) ((listF a0 a1 w).map (U o v)))
  | _ => none
noncomputable def eachSS (N : B2) (R : E2) : Ev.Spec := guarded fun
  | [.i .i64 w, .agg [.u64 a0, .u64 a1], .clo 61 [.ref [.u8 o], .ref [.i .i64 v], .ref [.u64 n]]] => some (!okW w || okW v, eachV w ((listF a0 a1 w).map (fun x => R o v x (n % BitVec.ofInt 64 v))) ((listF a0 a1 w).map (fun x => N o v x (n % BitVec.ofInt 64 v))))
  | _ => none
noncomputable def eachTS (C : C2) (E : E2) : Ev.Spec := guarded fun
  | [.i .i64 w, .agg [.u64 a0, .u64 a1], .clo 65 [.ref [.u8 o], .ref [.i .i64 v], .ref [.sl64 y]]] => some (!okW w || decide (y.length = (128 / w).toNat), eachV w (List.zipWith (E o v) (listF a0 a1 w) y) (List.zipWith (thV C E o v) (listF a0 a1 w) y))
  | _ => none
theorem t_each2 {N : B2} {R : E2} (h : Snd 18 (TwoG N R)) : Snd 42 (each2S N R) := by
  refine Sound.of_ptG fun ds d hd => ?_
  split at hd
  · rename_i w a0 a1 o v y
    simp only [Option.some.injEq, Prod.mk.injEq] at hd
    obtain ⟨hg, rfl⟩ := hd
    cases hw : okW w
    · rw [each_no hw]
      exact each_bad hw a0 a1 _ (by kernel_rfl)
    · exact each2_pt (clo2 h) hw o v a0 a1 y (by simpa [hw] using hg)
  · cases hd
theorem t_each1 {U : B1} {Q : E1} (h : Snd 59 (OneH U Q)) : Snd 42 (each1S U Q) := by
  refine Sound.of_pt fun ds d hd => ?_
  split at hd
  · rename_i w a0 a1 o v
    cases hd
    cases hw : okW w
    · rw [each_no hw]
      exact each_bad hw a0 a1 _ (by kernel_rfl)
    · exact each1_pt (clo1 h) hw o v a0 a1
  · cases hd
theorem t_eachS {N : B2} {R : E2} (h : Snd 18 (TwoG N R)) : Snd 42 (eachSS N R) := by
  refine Sound.of_ptG fun ds d hd => ?_
  split at hd
  · rename_i w a0 a1 o v n
    simp only [Option.some.injEq, Prod.mk.injEq] at hd
    obtain ⟨hg, rfl⟩ := hd
    cases hw : okW w
    · rw [each_no hw]
      exact each_bad hw a0 a1 _ (by kernel_rfl)
    · exact eachS_pt (cloS h) hw o v a0 a1 n (by simpa [hw] using hg)
  · cases hd
theorem t_eachT {C : C2} {E : E2} (h : Snd 66 (ThanH C E)) : Snd 42 (eachTS C E) := by
  refine Sound.of_ptG fun ds d hd => ?_
  split at hd
  · rename_i w a0 a1 o v y
    simp only [Option.some.injEq, Prod.mk.injEq] at hd
    obtain ⟨hg, rfl⟩ := hd
    cases hw : okW w
    · rw [each_no hw]
      exact each_bad hw a0 a1 _ (by kernel_rfl)
    · exact eachT_pt (cloT h) hw o v a0 a1 y (by simpa [hw] using hg)
  · cases hd

/-! operators of two -/
def annR2 : Nat → List Nat := fun | 16 => [0, 1, 8, 10, 11, 12] | _ => []
theorem vTwo_8 (N : B2) (R : E2) (o : BitVec 8) (a0 a1 b0 b1 : BitVec 64) : ex [(41, left allF), (42, each2S N R)] (fun _ => []) Tryd.f13 [.u8 o, .i .i64 8, vec a0 a1, vec b0 b1] some =
  exclG o (some ofErr) (some (eachV 8 (rT R o 8 a0 a1 b0 b1) (lT N o 8 a0 a1 b0 b1))) := by kernel_rfl
theorem rTwo_8 (N : B2) (R : E2) (o : BitVec 8) (a0 a1 b0 b1 : BitVec 64) : ex [(44, widthS), (24, listS), (45, TwoG N R), (46, vecS)] annR2 Tryd.f14 [.u8 o, .i .i64 8, vec a0 a1, vec b0 b1] some =
  exclR o (some ofErr) (chainR (rT R o 8 a0 a1 b0 b1) (some ofErr) (some (eachB true 8 (lT N o 8 a0 a1 b0 b1)))) := by kernel_rfl
theorem vTwo_16 (N : B2) (R : E2) (o : BitVec 8) (a0 a1 b0 b1 : BitVec 64) : ex [(41, left allF), (42, each2S N R)] (fun _ => []) Tryd.f13 [.u8 o, .i .i64 16, vec a0 a1, vec b0 b1] some =
  exclG o (some ofErr) (some (eachV 16 (rT R o 16 a0 a1 b0 b1) (lT N o 16 a0 a1 b0 b1))) := by kernel_rfl
theorem rTwo_16 (N : B2) (R : E2) (o : BitVec 8) (a0 a1 b0 b1 : BitVec 64) : ex [(44, widthS), (24, listS), (45, TwoG N R), (46, vecS)] annR2 Tryd.f14 [.u8 o, .i .i64 16, vec a0 a1, vec b0 b1] some =
  exclR o (some ofErr) (chainR (rT R o 16 a0 a1 b0 b1) (some ofErr) (some (eachB true 16 (lT N o 16 a0 a1 b0 b1)))) := by kernel_rfl
theorem vTwo_32 (N : B2) (R : E2) (o : BitVec 8) (a0 a1 b0 b1 : BitVec 64) : ex [(41, left allF), (42, each2S N R)] (fun _ => []) Tryd.f13 [.u8 o, .i .i64 32, vec a0 a1, vec b0 b1] some =
  exclG o (some ofErr) (some (eachV 32 (rT R o 32 a0 a1 b0 b1) (lT N o 32 a0 a1 b0 b1))) := by kernel_rfl
theorem rTwo_32 (N : B2) (R : E2) (o : BitVec 8) (a0 a1 b0 b1 : BitVec 64) : ex [(44, widthS), (24, listS), (45, TwoG N R), (46, vecS)] annR2 Tryd.f14 [.u8 o, .i .i64 32, vec a0 a1, vec b0 b1] some =
  exclR o (some ofErr) (chainR (rT R o 32 a0 a1 b0 b1) (some ofErr) (some (eachB true 32 (lT N o 32 a0 a1 b0 b1)))) := by kernel_rfl
theorem vTwo_64 (N : B2) (R : E2) (o : BitVec 8) (a0 a1 b0 b1 : BitVec 64) : ex [(41, left allF), (42, each2S N R)] (fun _ => []) Tryd.f13 [.u8 o, .i .i64 64, vec a0 a1, vec b0 b1] some =
  exclG o (some ofErr) (some (eachV 64 (rT R o 64 a0 a1 b0 b1) (lT N o 64 a0 a1 b0 b1))) := by kernel_rfl
theorem rTwo_64 (N : B2) (R : E2) (o : BitVec 8) (a0 a1 b0 b1 : BitVec 64) : ex [(44, widthS), (24, listS), (45, TwoG N R), (46, vecS)] annR2 Tryd.f14 [.u8 o, .i .i64 64, vec a0 a1, vec b0 b1] some =
  exclR o (some ofErr) (chainR (rT R o 64 a0 a1 b0 b1) (some ofErr) (some (eachB true 64 (lT N o 64 a0 a1 b0 b1)))) := by kernel_rfl
theorem vTwo_no (o : BitVec 8) (w : Int) (a0 a1 b0 b1 : BitVec 64) : ex [(41, right allF)] (fun _ => []) Tryd.f13 [.u8 o, .i .i64 w, vec a0 a1, vec b0 b1] some =
  exclG o (some ofErr) (if (!okW w) = true then some ofErr else none) := by kernel_rfl
theorem rTwo_no (o : BitVec 8) (w : Int) (a0 a1 b0 b1 : BitVec 64) : ex [(44, widthS)] (fun _ => []) Tryd.f14 [.u8 o, .i .i64 w, vec a0 a1, vec b0 b1] some =
  exclR o (some ofErr) (if (!okW w) = true then some ofErr else none) := by kernel_rfl
theorem vTwo_fin (N : B2) (R : E2) (o : BitVec 8) (w : Int) (a0 a1 b0 b1 : BitVec 64) : exclG o (some ofErr) (some (eachV w (rT R o w a0 a1 b0 b1) (lT N o w a0 a1 b0 b1))) = some (eachB (okT N R o w a0 a1 b0 b1) w (lT N o w a0 a1 b0 b1)) := by
  rw [exclG_eq]
  unfold okT eachV
  cases exclB o <;> rfl
theorem t_vTwo {N : B2} {R : E2} (h : Snd 18 (TwoG N R)) : Snd 13 (VtwoS N R) := by
  refine Sound.of_pt fun ds d hd => ?_
  split at hd
  · rename_i o w a0 a1 b0 b1
    cases hd
    cases hw : okW w
    · rw [okT_no hw]
      refine (execFn_sound (ann := fun _ => []) (TableOK.cons All28.right TableOK.nil) mixed Tryd.func13 (by kernel_rfl) 50).pt ((vTwo_no o w a0 a1 b0 b1).trans ?_)
      rw [exclG_eq, hw]
      cases exclB o <;> rfl
    · have S := execFn_sound (P := Tryd.prog) (G := G0) (ann := fun _ => []) (TableOK.cons All28.left (TableOK.cons (t_each2 h) TableOK.nil)) mixed Tryd.func13 (by kernel_rfl) 50
      rcases okW_cases hw with rfl | rfl | rfl | rfl
      · exact S.pt ((vTwo_8 N R o a0 a1 b0 b1).trans (vTwo_fin N R o 8 a0 a1 b0 b1))
      · exact S.pt ((vTwo_16 N R o a0 a1 b0 b1).trans (vTwo_fin N R o 16 a0 a1 b0 b1))
      · exact S.pt ((vTwo_32 N R o a0 a1 b0 b1).trans (vTwo_fin N R o 32 a0 a1 b0 b1))
      · exact S.pt ((vTwo_64 N R o a0 a1 b0 b1).trans (vTwo_fin N R o 64 a0 a1 b0 b1))
  · cases hd
/-- What is answered without an error fits. -/
def Fits2 (N : B2) (R : E2) : Prop := ∀ o w a b, okW w = true → exclB o = false → R o w a b = 0 → N o w a b ≤ maskF w
theorem zip_len {α : Type} (g : BitVec 64 → BitVec 64 → α) (w : Int) (a0 a1 b0 b1 : BitVec 64) : (List.zipWith g (listF a0 a1 w) (listF b0 b1 w)).length = (128 / w).toNat := by
  rw [List.length_zipWith, listF_length, listF_length, Nat.min_self]
theorem zip_all {R : BitVec 64 → BitVec 64 → Int} {N : BitVec 64 → BitVec 64 → BitVec 64} {m : BitVec 64} (h : ∀ x y, R x y = 0 → N x y ≤ m) : ∀ l k : List (BitVec 64), (List.zipWith R l k).all (fun r => r == 0) = true → (List.zipWith N l k).all (fun z => decide (z ≤ m)) = true
  | [], _, _ => by simp
  | _ :: _, [], _ => by simp
  | x :: l, y :: k, h2 => by
    simp only [List.zipWith_cons_cons, List.all_cons, Bool.and_eq_true, beq_iff_eq, decide_eq_true_eq] at h2 ⊢
    exact ⟨h x y h2.1, zip_all h l k h2.2⟩
theorem rTwo_fin {N : B2} {R : E2} (hF : Fits2 N R) {w : Int} (hw : okW w = true) (o : BitVec 8) (a0 a1 b0 b1 : BitVec 64) : exclR o (some ofErr) (chainR (rT R o w a0 a1 b0 b1) (some ofErr) (some (eachB true w (lT N o w a0 a1 b0 b1)))) = some (eachB (okT N R o w a0 a1 b0 b1) w (lT N o w a0 a1 b0 b1)) := by
  rw [exclR_eq, chainR_eq]
  unfold okT okEach
  cases ho : exclB o
  · cases hr : (rT R o w a0 a1 b0 b1).all fun r => r == 0
    · rfl
    · have : okOf w (lT N o w a0 a1 b0 b1) = true := by
        simp only [okOf, hw, Bool.true_and, Bool.and_eq_true, decide_eq_true_eq]
        exact ⟨zip_len _ w a0 a1 b0 b1, zip_all (fun x y h => hF o w x y hw ho h) _ _ hr⟩
      rw [this]; rfl
  · rfl
theorem t_rvTwo {N : B2} {R : E2} (h : Snd 45 (TwoG N R)) (hF : Fits2 N R) : Snd 14 (VtwoS N R) := by
  refine Sound.of_pt fun ds d hd => ?_
  split at hd
  · rename_i o w a0 a1 b0 b1
    cases hd
    cases hw : okW w
    · rw [okT_no hw]
      refine (execFn_sound (ann := fun _ => []) (TableOK.cons t_Width TableOK.nil) mixed Tryd.func14 (by kernel_rfl) 50).pt ((rTwo_no o w a0 a1 b0 b1).trans ?_)
      rw [exclR_eq, hw]
      cases exclB o <;> rfl
    · have S := execFn_sound (P := Tryd.prog) (G := G0) (ann := annR2) (TableOK.cons t_Width (TableOK.cons list35 (TableOK.cons h (TableOK.cons vec45 TableOK.nil)))) mixed Tryd.func14 (by kernel_rfl) 50
      rcases okW_cases hw with rfl | rfl | rfl | rfl
      · exact S.pt ((rTwo_8 N R o a0 a1 b0 b1).trans (rTwo_fin hF hw o a0 a1 b0 b1))
      · exact S.pt ((rTwo_16 N R o a0 a1 b0 b1).trans (rTwo_fin hF hw o a0 a1 b0 b1))
      · exact S.pt ((rTwo_32 N R o a0 a1 b0 b1).trans (rTwo_fin hF hw o a0 a1 b0 b1))
      · exact S.pt ((rTwo_64 N R o a0 a1 b0 b1).trans (rTwo_fin hF hw o a0 a1 b0 b1))
  · cases hd
end Go.L07

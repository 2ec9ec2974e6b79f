/-
  Part of the proof; what its functions and lemmas say stands in the text.
-/
import Derived.Test.YtimaanpcglbnpaaDoorW08a
set_option linter.unusedSimpArgs false
set_option linter.unusedVariables false
/-!
Vectors of floats: operators of two, of one, comparisons.
-/
namespace Go.L08
open Go.L08F (WV CV CE twoG thanG wiG q_W)
open Go.Ev Go.Proofs Go.RowKit Go.Wh Go.Fl

/-- The document's: a lane's error is the answer's. -/
def chainQ : List Int → Option D → Option D
  | [], a => a
  | r :: l, a => if (!(r == 0)) = true then some (.tup [vec 0#64 0#64, .i .i64 r]) else chainQ l a
theorem chainQ_eq : ∀ (l : List Int) (a : Option D), (∀ r ∈ l, r = 0 ∨ r = 2) → chainQ l a = chainR l (some ofErr) a
  | [], _, _ => rfl
  | r :: l, a, h => by
    have ih := chainQ_eq l a fun x hx => h x (List.mem_cons_of_mem _ hx)
    show (if (!(r == 0)) = true then some (.tup [vec 0#64 0#64, .i .i64 r]) else chainQ l a) = (if (!(r == 0)) = true then some ofErr else chainR l (some ofErr) a)
    rw [ih]
    rcases h r List.mem_cons_self with rfl | rfl <;> rfl
def lT (N : WV) (o : BitVec 8) (w : Int) (a0 a1 b0 b1 : BitVec 64) : List (BitVec 64) := List.zipWith (N o w) (listF a0 a1 w) (listF b0 b1 w)
def rT (R : CE) (o : BitVec 8) (w : Int) (a0 a1 b0 b1 : BitVec 64) : List Int := List.zipWith (R o w) (listF a0 a1 w) (listF b0 b1 w)
def lO (U : B1) (o : BitVec 8) (w : Int) (a0 a1 : BitVec 64) : List (BitVec 64) := (listF a0 a1 w).map (U o w)
def rO (Q : E1) (o : BitVec 8) (w : Int) (a0 a1 : BitVec 64) : List Int := (listF a0 a1 w).map (Q o w)
noncomputable def VtwoS (N : WV) (R : CE) : Ev.Spec := joined fun | [.u8 o, .i .i64 w, .agg [.u64 a0, .u64 a1], .agg [.u64 b0, .u64 b1]] => some (eachV w (rT R o w a0 a1 b0 b1) (lT N o w a0 a1 b0 b1)) | _ => none
noncomputable def VoneS (U : B1) (Q : E1) : Ev.Spec := joined fun | [.u8 o, .i .i64 w, .agg [.u64 a0, .u64 a1]] => some (eachV w (rO Q o w a0 a1) (lO U o w a0 a1)) | _ => none
theorem zip_len {α : Type} (g : BitVec 64 → BitVec 64 → α) (w : Int) (a0 a1 b0 b1 : BitVec 64) : (List.zipWith g (listF a0 a1 w) (listF b0 b1 w)).length = (128 / w).toNat := by
  rw [List.length_zipWith, listF_length, listF_length, Nat.min_self]
theorem zip_all {N : BitVec 64 → BitVec 64 → BitVec 64} {m : BitVec 64} (h : ∀ x y, N x y ≤ m) : ∀ l k : List (BitVec 64), (List.zipWith N l k).all (fun z => decide (z ≤ m)) = true
  | [], _ => by simp
  | _ :: _, [] => by simp
  | x :: l, y :: k => by
    simp only [List.zipWith_cons_cons, List.all_cons, Bool.and_eq_true, decide_eq_true_eq]
    exact ⟨h x y, zip_all h l k⟩
theorem zip_mem {R : BitVec 64 → BitVec 64 → Int} (h : ∀ x y, R x y = 0 ∨ R x y = 2) : ∀ l k : List (BitVec 64), ∀ r ∈ List.zipWith R l k, r = 0 ∨ r = 2
  | [], _, r, hr => by simp at hr
  | _ :: _, [], r, hr => by simp at hr
  | x :: l, y :: k, r, hr => by
    rw [List.zipWith_cons_cons, List.mem_cons] at hr
    rcases hr with rfl | hr
    · exact h x y
    · exact zip_mem h l k r hr
theorem okW_of {w : Int} (h : wOK w = true) : okW w = true := by rcases wOK_cases h with rfl | rfl <;> decide
/-- The document's vector of the lanes is the program's. -/
theorem fin_ok {w : Int} (hw : wOK w = true) {rs : List Int} {l : List (BitVec 64)} (h1 : l.length = (128 / w).toNat) (h2 : l.all (fun z => decide (z ≤ maskF w)) = true) : chainR rs (some ofErr) (some (eachB true w l)) = some (eachV w rs l) := by
  rw [← each_fin hw]
  have : okOf w l = true := by
    unfold okOf
    rw [okW_of hw, decide_eq_true h1, h2]; rfl
  rw [this]
theorem vTwo_8 (N : WV) (R : CE) (o : BitVec 8) (a0 a1 b0 b1 : BitVec 64) : ex [(26, left allF), (27, each2S N R)] (fun _ => []) Tryd.f9 [.u8 o, .i .i64 8, vec a0 a1, vec b0 b1] some = some ofErr := by kernel_rfl
theorem vTh_8 (C : CV) (E : CE) (o : BitVec 8) (a0 a1 b0 b1 : BitVec 64) : ex [(26, left allF), (27, eachTS C E)] (fun _ => []) Tryd.f12 [.u8 o, .i .i64 8, vec a0 a1, vec b0 b1] some = some ofErr := by kernel_rfl
theorem vTwo_16 (N : WV) (R : CE) (o : BitVec 8) (a0 a1 b0 b1 : BitVec 64) : ex [(26, left allF), (27, each2S N R)] (fun _ => []) Tryd.f9 [.u8 o, .i .i64 16, vec a0 a1, vec b0 b1] some = some ofErr := by kernel_rfl
theorem vTh_16 (C : CV) (E : CE) (o : BitVec 8) (a0 a1 b0 b1 : BitVec 64) : ex [(26, left allF), (27, eachTS C E)] (fun _ => []) Tryd.f12 [.u8 o, .i .i64 16, vec a0 a1, vec b0 b1] some = some ofErr := by kernel_rfl
def errQ (r : Int) : Option D := some (.tup [vec 0#64 0#64, .i .i64 r])
def chT (C : CV) (E : CE) (o : BitVec 8) (w : Int) : List (BitVec 64) → List (BitVec 64) → (List (BitVec 64) → Option D) → Option D
  | x :: l, y :: m, k => if (!(E o w x y == 0)) = true then errQ (E o w x y) else if C o w x y = true then chT C E o w l m (fun r => k (maskF w :: r)) else chT C E o w l m (fun r => k (0#64 :: r))
  | _, _, k => k []
theorem chT_eq (C : CV) (E : CE) (o : BitVec 8) (w : Int) : ∀ (l m : List (BitVec 64)) (k : List (BitVec 64) → Option D), chT C E o w l m k = chainQ (List.zipWith (E o w) l m) (k (List.zipWith (thV C E o w) l m))
  | [], m, k => by cases m <;> rfl
  | x :: l, [], k => rfl
  | x :: l, y :: m, k => by
    show (if (!(E o w x y == 0)) = true then errQ (E o w x y) else if C o w x y = true then chT C E o w l m (fun r => k (maskF w :: r)) else chT C E o w l m (fun r => k (0#64 :: r))) = (if (!(E o w x y == 0)) = true then some (.tup [vec 0#64 0#64, .i .i64 (E o w x y)]) else chainQ (List.zipWith (E o w) l m) (k (thV C E o w x y :: List.zipWith (thV C E o w) l m)))
    rw [chT_eq C E o w l m, chT_eq C E o w l m]
    unfold thV
    by_cases h0 : E o w x y = 0
    · rw [h0]
      cases C o w x y <;> rfl
    · have e1 : (E o w x y == 0) = false := by simp [h0]
      rw [e1]
      rfl
def annR2 : Nat → List Nat := fun | 5 => [0, 1, 8, 10, 11, 12] | _ => []
def annR1 : Nat → List Nat := fun | 5 => [0, 1, 6, 8, 9] | _ => []
theorem vTwo_32 (N : WV) (R : CE) (o : BitVec 8) (a0 a1 b0 b1 : BitVec 64) : ex [(26, left allF), (27, each2S N R)] (fun _ => []) Tryd.f9 [.u8 o, .i .i64 32, vec a0 a1, vec b0 b1] some =
  some (eachV 32 (rT R o 32 a0 a1 b0 b1) (lT N o 32 a0 a1 b0 b1)) := by kernel_rfl
theorem vTh_32 (C : CV) (E : CE) (o : BitVec 8) (a0 a1 b0 b1 : BitVec 64) : ex [(26, left allF), (27, eachTS C E)] (fun _ => []) Tryd.f12 [.u8 o, .i .i64 32, vec a0 a1, vec b0 b1] some =
  some (eachV 32 (rT E o 32 a0 a1 b0 b1) (lT (thV C E) o 32 a0 a1 b0 b1)) := by kernel_rfl
theorem rTwo_32 (N : WV) (R : CE) (o : BitVec 8) (a0 a1 b0 b1 : BitVec 64) : ex [(30, wiG wOK), (31, listS), (32, twoG N R), (33, vecS)] annR2 Tryd.f10 [.u8 o, .i .i64 32, vec a0 a1, vec b0 b1] some =
  chainQ (rT R o 32 a0 a1 b0 b1) (some (eachB true 32 (lT N o 32 a0 a1 b0 b1))) := by kernel_rfl
theorem rOne_32 (U : B1) (Q : E1) (o : BitVec 8) (a0 a1 : BitVec 64) : ex [(30, wiG wOK), (31, listS), (56, onH U Q), (33, vecS)] annR1 Tryd.f25 [.u8 o, .i .i64 32, vec a0 a1] some =
  chainQ (rO Q o 32 a0 a1) (some (eachB true 32 (lO U o 32 a0 a1))) := by kernel_rfl
theorem rTh_32 (C : CV) (E : CE) (o : BitVec 8) (a0 a1 b0 b1 : BitVec 64) : ex [(30, wiG wOK), (31, listS), (37, thanG C E), (38, maskS), (33, vecS)] annR2 Tryd.f13 [.u8 o, .i .i64 32, vec a0 a1, vec b0 b1] some =
  chT C E o 32 (listF a0 a1 32) (listF b0 b1 32) (fun l => some (eachB true 32 l)) := by kernel_rfl
theorem vTwo_64 (N : WV) (R : CE) (o : BitVec 8) (a0 a1 b0 b1 : BitVec 64) : ex [(26, left allF), (27, each2S N R)] (fun _ => []) Tryd.f9 [.u8 o, .i .i64 64, vec a0 a1, vec b0 b1] some =
  some (eachV 64 (rT R o 64 a0 a1 b0 b1) (lT N o 64 a0 a1 b0 b1)) := by kernel_rfl
theorem vTh_64 (C : CV) (E : CE) (o : BitVec 8) (a0 a1 b0 b1 : BitVec 64) : ex [(26, left allF), (27, eachTS C E)] (fun _ => []) Tryd.f12 [.u8 o, .i .i64 64, vec a0 a1, vec b0 b1] some =
  some (eachV 64 (rT E o 64 a0 a1 b0 b1) (lT (thV C E) o 64 a0 a1 b0 b1)) := by kernel_rfl
theorem rTwo_64 (N : WV) (R : CE) (o : BitVec 8) (a0 a1 b0 b1 : BitVec 64) : ex [(30, wiG wOK), (31, listS), (32, twoG N R), (33, vecS)] annR2 Tryd.f10 [.u8 o, .i .i64 64, vec a0 a1, vec b0 b1] some =
  chainQ (rT R o 64 a0 a1 b0 b1) (some (eachB true 64 (lT N o 64 a0 a1 b0 b1))) := by kernel_rfl
theorem rOne_64 (U : B1) (Q : E1) (o : BitVec 8) (a0 a1 : BitVec 64) : ex [(30, wiG wOK), (31, listS), (56, onH U Q), (33, vecS)] annR1 Tryd.f25 [.u8 o, .i .i64 64, vec a0 a1] some =
  chainQ (rO Q o 64 a0 a1) (some (eachB true 64 (lO U o 64 a0 a1))) := by kernel_rfl
theorem rTh_64 (C : CV) (E : CE) (o : BitVec 8) (a0 a1 b0 b1 : BitVec 64) : ex [(30, wiG wOK), (31, listS), (37, thanG C E), (38, maskS), (33, vecS)] annR2 Tryd.f13 [.u8 o, .i .i64 64, vec a0 a1, vec b0 b1] some =
  chT C E o 64 (listF a0 a1 64) (listF b0 b1 64) (fun l => some (eachB true 64 l)) := by kernel_rfl
theorem vTwo_no (N : WV) (R : CE) (o : BitVec 8) (w : Int) (a0 a1 b0 b1 : BitVec 64) : ex [(26, right allF), (27, each2S N R)] (fun _ => []) Tryd.f9 [.u8 o, .i .i64 w, vec a0 a1, vec b0 b1] some =
  (if (!okW w) = true then (if (!wOK w) = true then some ofErr else none) else none) := by kernel_rfl
theorem vTh_no (C : CV) (E : CE) (o : BitVec 8) (w : Int) (a0 a1 b0 b1 : BitVec 64) : ex [(26, right allF), (27, eachTS C E)] (fun _ => []) Tryd.f12 [.u8 o, .i .i64 w, vec a0 a1, vec b0 b1] some =
  (if (!okW w) = true then (if (!wOK w) = true then some ofErr else none) else none) := by kernel_rfl
theorem vOne_any (U : B1) (Q : E1) (o : BitVec 8) (w : Int) (a0 a1 : BitVec 64) : ex [(27, each1S U Q)] (fun _ => []) Tryd.f24 [.u8 o, .i .i64 w, vec a0 a1] some = some (eachV w (rO Q o w a0 a1) (lO U o w a0 a1)) := by kernel_rfl
theorem rTwo_no (W : Int → Bool) (o : BitVec 8) (w : Int) (a0 a1 b0 b1 : BitVec 64) : ex [(30, wiG W)] (fun _ => []) Tryd.f10 [.u8 o, .i .i64 w, vec a0 a1, vec b0 b1] some = (if (!W w) = true then some ofErr else none) := by kernel_rfl
theorem rTh_no (W : Int → Bool) (o : BitVec 8) (w : Int) (a0 a1 b0 b1 : BitVec 64) : ex [(30, wiG W)] (fun _ => []) Tryd.f13 [.u8 o, .i .i64 w, vec a0 a1, vec b0 b1] some = (if (!W w) = true then some ofErr else none) := by kernel_rfl
theorem rOne_no (W : Int → Bool) (o : BitVec 8) (w : Int) (a0 a1 : BitVec 64) : ex [(30, wiG W)] (fun _ => []) Tryd.f25 [.u8 o, .i .i64 w, vec a0 a1] some = (if (!W w) = true then some ofErr else none) := by kernel_rfl
theorem t_vTwo {N : WV} {R : CE} (h : Snd 29 (twoG N R)) : Snd 9 (VtwoS N R) := by
  refine Sound.of_pt fun ds d hd => ?_
  split at hd
  · rename_i o w a0 a1 b0 b1
    cases hd
    cases hw : okW w
    · have hw2 : wOK w = false := by
        cases h2 : wOK w
        · rfl
        · rw [okW_of h2] at hw; cases hw
      rw [each_no hw2]
      refine (execFn_sound (ann := fun _ => []) (TableOK.cons All28.right (TableOK.cons (t_each2 h) TableOK.nil)) mixed Tryd.func9 (by kernel_rfl) 50).pt ((vTwo_no N R o w a0 a1 b0 b1).trans ?_)
      rw [hw, hw2]; rfl
    · have S := execFn_sound (P := Tryd.prog) (G := G0) (ann := fun _ => []) (TableOK.cons All28.left (TableOK.cons (t_each2 h) TableOK.nil)) mixed Tryd.func9 (by kernel_rfl) 50
      rcases okW_cases hw with rfl | rfl | rfl | rfl
      · rw [each_no (by decide)]
        exact S.pt (vTwo_8 N R o a0 a1 b0 b1)
      · rw [each_no (by decide)]
        exact S.pt (vTwo_16 N R o a0 a1 b0 b1)
      · exact S.pt (vTwo_32 N R o a0 a1 b0 b1)
      · exact S.pt (vTwo_64 N R o a0 a1 b0 b1)
  · cases hd
theorem t_vTh {C : CV} {E : CE} (h : Snd 36 (thanG C E)) : Snd 12 (VtwoS (thV C E) E) := by
  refine Sound.of_pt fun ds d hd => ?_
  split at hd
  · rename_i o w a0 a1 b0 b1
    cases hd
    cases hw : okW w
    · have hw2 : wOK w = false := by
        cases h2 : wOK w
        · rfl
        · rw [okW_of h2] at hw; cases hw
      rw [each_no hw2]
      refine (execFn_sound (ann := fun _ => []) (TableOK.cons All28.right (TableOK.cons (t_eachT h) TableOK.nil)) mixed Tryd.func12 (by kernel_rfl) 50).pt ((vTh_no C E o w a0 a1 b0 b1).trans ?_)
      rw [hw, hw2]; rfl
    · have S := execFn_sound (P := Tryd.prog) (G := G0) (ann := fun _ => []) (TableOK.cons All28.left (TableOK.cons (t_eachT h) TableOK.nil)) mixed Tryd.func12 (by kernel_rfl) 50
      rcases okW_cases hw with rfl | rfl | rfl | rfl
      · rw [each_no (by decide)]
        exact S.pt (vTh_8 C E o a0 a1 b0 b1)
      · rw [each_no (by decide)]
        exact S.pt (vTh_16 C E o a0 a1 b0 b1)
      · exact S.pt (vTh_32 C E o a0 a1 b0 b1)
      · exact S.pt (vTh_64 C E o a0 a1 b0 b1)
  · cases hd
theorem t_vOne {U : B1} {Q : E1} (h : Snd 55 (onH U Q)) : Snd 24 (VoneS U Q) := by
  refine Sound.join (execFn_sound (ann := fun _ => []) (TableOK.cons (t_each1 h) TableOK.nil) mixed Tryd.func24 (by kernel_rfl) 50) fun ds d hd => ?_
  split at hd
  · cases hd; exact vOne_any _ _ _ _ _ _
  · cases hd
/-- What is answered fits; errors are this one. -/
structure Good2 (N : WV) (R : CE) : Prop where
  fits : ∀ o w a b, wOK w = true → N o w a b ≤ maskF w
  err : ∀ o w a b, R o w a b = 0 ∨ R o w a b = 2
structure Good1 (U : B1) (Q : E1) : Prop where
  fits : ∀ o w a, wOK w = true → U o w a ≤ maskF w
  err : ∀ o w a, Q o w a = 0 ∨ Q o w a = 2
theorem t_rvTwo {N : WV} {R : CE} (h : Snd 32 (twoG N R)) (hg : Good2 N R) : Snd 10 (VtwoS N R) := by
  refine Sound.of_pt fun ds d hd => ?_
  split at hd
  · rename_i o w a0 a1 b0 b1
    cases hd
    cases hw : wOK w
    · rw [each_no hw]
      refine (execFn_sound (ann := fun _ => []) (TableOK.cons q_W TableOK.nil) mixed Tryd.func10 (by kernel_rfl) 50).pt ((rTwo_no _ o w a0 a1 b0 b1).trans ?_)
      rw [hw]; rfl
    · have S := execFn_sound (P := Tryd.prog) (G := G0) (ann := annR2) (TableOK.cons q_W (TableOK.cons list35 (TableOK.cons h (TableOK.cons vec45 TableOK.nil)))) mixed Tryd.func10 (by kernel_rfl) 50
      have fin : chainQ (rT R o w a0 a1 b0 b1) (some (eachB true w (lT N o w a0 a1 b0 b1))) = some (eachV w (rT R o w a0 a1 b0 b1) (lT N o w a0 a1 b0 b1)) := by
        rw [chainQ_eq (rT R o w a0 a1 b0 b1) _ (zip_mem (fun x y => hg.err o w x y) _ _)]
        exact fin_ok hw (zip_len _ _ _ _ _ _) (zip_all (fun x y => hg.fits o w x y hw) _ _)
      rcases wOK_cases hw with rfl | rfl
      · exact S.pt ((rTwo_32 N R o a0 a1 b0 b1).trans fin)
      · exact S.pt ((rTwo_64 N R o a0 a1 b0 b1).trans fin)
  · cases hd
theorem th_fits (C : CV) (E : CE) (o : BitVec 8) (w : Int) (a b : BitVec 64) : thV C E o w a b ≤ maskF w := by
  unfold thV
  split
  · exact BitVec.le_refl _
  · rw [BitVec.le_def]; exact Nat.zero_le _
theorem t_rvTh {C : CV} {E : CE} (h : Snd 37 (thanG C E)) (hg : ∀ o w a b, E o w a b = 0 ∨ E o w a b = 2) : Snd 13 (VtwoS (thV C E) E) := by
  refine Sound.of_pt fun ds d hd => ?_
  split at hd
  · rename_i o w a0 a1 b0 b1
    cases hd
    cases hw : wOK w
    · rw [each_no hw]
      refine (execFn_sound (ann := fun _ => []) (TableOK.cons q_W TableOK.nil) mixed Tryd.func13 (by kernel_rfl) 50).pt ((rTh_no _ o w a0 a1 b0 b1).trans ?_)
      rw [hw]; rfl
    · have S := execFn_sound (P := Tryd.prog) (G := G0) (ann := annR2) (TableOK.cons q_W (TableOK.cons list35 (TableOK.cons h (TableOK.cons t_Most (TableOK.cons vec45 TableOK.nil))))) mixed Tryd.func13 (by kernel_rfl) 50
      have fin : chT C E o w (listF a0 a1 w) (listF b0 b1 w) (fun l => some (eachB true w l)) = some (eachV w (rT E o w a0 a1 b0 b1) (lT (thV C E) o w a0 a1 b0 b1)) := by
        rw [chT_eq, chainQ_eq _ _ (zip_mem (fun x y => hg o w x y) _ _)]
        exact fin_ok hw (zip_len _ _ _ _ _ _) (zip_all (fun x y => th_fits C E o w x y) _ _)
      rcases wOK_cases hw with rfl | rfl
      · exact S.pt ((rTh_32 C E o a0 a1 b0 b1).trans fin)
      · exact S.pt ((rTh_64 C E o a0 a1 b0 b1).trans fin)
  · cases hd
theorem t_rvOne {U : B1} {Q : E1} (h : Snd 56 (onH U Q)) (hg : Good1 U Q) : Snd 25 (VoneS U Q) := by
  refine Sound.of_pt fun ds d hd => ?_
  split at hd
  · rename_i o w a0 a1
    cases hd
    cases hw : wOK w
    · rw [each_no hw]
      refine (execFn_sound (ann := fun _ => []) (TableOK.cons q_W TableOK.nil) mixed Tryd.func25 (by kernel_rfl) 50).pt ((rOne_no _ o w a0 a1).trans ?_)
      rw [hw]; rfl
    · have S := execFn_sound (P := Tryd.prog) (G := G0) (ann := annR1) (TableOK.cons q_W (TableOK.cons list35 (TableOK.cons h (TableOK.cons vec45 TableOK.nil)))) mixed Tryd.func25 (by kernel_rfl) 50
      have fin : chainQ (rO Q o w a0 a1) (some (eachB true w (lO U o w a0 a1))) = some (eachV w (rO Q o w a0 a1) (lO U o w a0 a1)) := by
        rw [chainQ_eq _ _ (fun r hr => by
          unfold rO at hr
          rw [List.mem_map] at hr
          obtain ⟨x, _, rfl⟩ := hr
          exact hg.err o w x)]
        refine fin_ok hw (by unfold lO; rw [List.length_map, listF_length]) ?_
        unfold lO
        rw [List.all_map, List.all_eq_true]
        intro x _
        exact decide_eq_true (hg.fits o w x hw)
      rcases wOK_cases hw with rfl | rfl
      · exact S.pt ((rOne_32 U Q o a0 a1).trans fin)
      · exact S.pt ((rOne_64 U Q o a0 a1).trans fin)
  · cases hd
end Go.L08

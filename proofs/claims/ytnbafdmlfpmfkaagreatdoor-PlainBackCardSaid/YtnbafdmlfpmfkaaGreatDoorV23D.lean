/-
  Part of the proof; what its functions and lemmas say stands in the text.
-/
import Derived.Test.YtnbafdmlfpmfkaaGreatDoorV23A
set_option linter.unusedSimpArgs false
set_option linter.unusedVariables false
/-!
Chapter 06: get and set.
-/
namespace Go.L23
open Go.Ev Go.Proofs Go.RowKit Go.Rt
open Go.Wh

/-- A width, and a lane of it. -/
def okI (t i : Int) : Bool := okW t && decide (0 ≤ i) && decide (i < 128 / t)
theorem okW_ne {t : Int} (h : okW t = true) : t ≠ 0 := by rcases okW_cases h with rfl | rfl | rfl | rfl <;> decide
theorem okW_div {t : Int} (h : okW t = true) : IntKind.i64.wrap (Int.tdiv 128 t) = 128 / t := by rcases okW_cases h with rfl | rfl | rfl | rfl <;> decide
theorem okW_pos {t : Int} (h : okW t = true) : ((128 / t).toNat : Int) = 128 / t := by rcases okW_cases h with rfl | rfl | rfl | rfl <;> decide
theorem isF_zero {t : Int} : isF t 0#64 = okW t := by
  have : 0#64 ≤ maskF t := by rw [BitVec.le_def]; simp
  simp [isF, this]
theorem listF_length (x y : BitVec 64) (w : Int) : (listF x y w).length = (128 / w).toNat := by simp [listF]
theorem listF_get {x y : BitVec 64} {w : Int} {n : Nat} (h : n < (128 / w).toNat) : (listF x y w).getD n 0#64 = getF x y w n := by
  rw [List.getD_eq_getElem?_getD]
  simp [listF, h]

noncomputable def GetS : Ev.Spec := joined fun | [.agg [.u64 x, .u64 y], .i .i64 t, .i .i64 i] => some (.tup [.u64 (ifF (okI t i) (getF x y t i)), .i .i64 (errF (okI t i))]) | _ => none
theorem Get13 : Snd 47 GetS := by
  refine Sound.join (execFn_sound (ann := fun _ => []) (TableOK.cons is40 (TableOK.cons get41 TableOK.nil)) mixed Tryz.func47 (by kernel_rfl) 50) fun ds d h => ?_
  split at h
  · rename_i x y t i
    cases h
    have nf : ex [(80, isS), (99, getS)] (fun _ => []) Tryz.f47 [vec x y, .i .i64 t, .i .i64 i] some = if (!isF t 0#64) = false then
        if decide (i < 0) = false then
          if t = 0 then none
          else
            if decide (IntKind.i64.wrap (Int.tdiv 128 t) ≤ i) = true then some (D.tup [D.u64 0#64, D.i IntKind.i64 2])
            else some (D.tup [D.u64 (getF x y t i), D.i IntKind.i64 0])
        else some (D.tup [D.u64 0#64, D.i IntKind.i64 2])
      else some (D.tup [D.u64 0#64, D.i IntKind.i64 2]) := by kernel_rfl
    refine nf.trans ?_
    rw [isF_zero]
    cases hw : okW t
    · simp [okI, hw, ifF, errF]
    · have h0 := okW_ne hw
      simp only [okI, hw, okW_div hw, if_neg h0]
      by_cases h1 : 0 ≤ i
      · by_cases h2 : i < 128 / t
        · have h3 : ¬ i < 0 := by omega
          have h4 : ¬ 128 / t ≤ i := by omega
          simp [h1, h2, h3, h4, ifF, errF]
        · have h3 : ¬ i < 0 := by omega
          have h4 : 128 / t ≤ i := by omega
          simp [h1, h2, h3, h4, ifF, errF]
      · have h3 : i < 0 := by omega
        simp [h1, h3, ifF, errF]
  · cases h
theorem Get14 : Snd 73 GetS := by
  refine Sound.join (execFn_sound (ann := fun _ => []) (TableOK.cons width42 (TableOK.cons list35 TableOK.nil)) mixed Tryz.func73 (by kernel_rfl) 50) fun ds d h => ?_
  split at h
  · rename_i x y t i
    cases h
    have nf : ex [(84, widthS), (82, listS)] (fun _ => []) Tryz.f73 [vec x y, .i .i64 t, .i .i64 i] some = if (!okW t) = false then
        if decide (i < 0) = false then
          if t = 0 then none
          else
            if decide (IntKind.i64.wrap (Int.tdiv 128 t) ≤ i) = true then some (D.tup [D.u64 0#64, D.i IntKind.i64 2])
            else
              if okW t = true then
                if 0 ≤ i ∧ i < (listF x y t).length then
                  if 0 + i.toNat * 1 < (listF x y t).length then
                    some (D.tup [D.u64 ((listF x y t).getD (0 + i.toNat * 1) 0#64), D.i IntKind.i64 0])
                  else none
                else none
              else none
        else some (D.tup [D.u64 0#64, D.i IntKind.i64 2])
      else some (D.tup [D.u64 0#64, D.i IntKind.i64 2]) := by kernel_rfl
    refine nf.trans ?_
    cases hw : okW t
    · simp [okI, hw, ifF, errF]
    · have h0 := okW_ne hw
      have hp := okW_pos hw
      simp only [okI, hw, okW_div hw, if_neg h0, listF_length]
      by_cases h1 : 0 ≤ i
      · by_cases h2 : i < 128 / t
        · have h3 : ¬ i < 0 := by omega
          have h4 : ¬ 128 / t ≤ i := by omega
          have h5 : i.toNat < (128 / t).toNat := by omega
          have h6 : (0 + i.toNat * 1) = i.toNat := by omega
          have h7 : ((i.toNat : Nat) : Int) = i := by omega
          rw [h6, listF_get h5, h7, hp, if_pos (And.intro h1 h2), if_pos h5]
          simp [h1, h2, h3, h4, ifF, errF]
        · have h3 : ¬ i < 0 := by omega
          have h4 : 128 / t ≤ i := by omega
          simp [h1, h2, h3, h4, ifF, errF]
      · have h3 : i < 0 := by omega
        simp [h1, h3, ifF, errF]
  · cases h

def okS (t i : Int) (z : BitVec 64) : Bool := okI t i && decide (z ≤ maskF t)
noncomputable def SetS : Ev.Spec := joined fun
  | [.agg [.u64 x, .u64 y], .i .i64 t, .i .i64 i, .u64 z] => some (.tup [vec (ifF (okS t i z) (setF x y t i z).1) (ifF (okS t i z) (setF x y t i z).2), .i .i64 (errF (okS t i z))])
  | _ => none
theorem Set15 : Snd 32 SetS := by
  refine Sound.join (execFn_sound (ann := fun _ => []) (TableOK.cons is40 (TableOK.cons set43 TableOK.nil)) mixed Tryz.func32 (by kernel_rfl) 50) fun ds d h => ?_
  split at h
  · rename_i x y t i z
    cases h
    have nf : ex [(80, isS), (81, setS)] (fun _ => []) Tryz.f32 [vec x y, .i .i64 t, .i .i64 i, .u64 z] some = if (!isF t z) = false then
        if decide (i < 0) = false then
          if t = 0 then none
          else
            if decide (IntKind.i64.wrap (Int.tdiv 128 t) ≤ i) = true then
              some (D.tup [D.agg [D.u64 0#64, D.u64 0#64], D.i IntKind.i64 2])
            else some (D.tup [D.agg [D.u64 (setF x y t i z).fst, D.u64 (setF x y t i z).snd], D.i IntKind.i64 0])
        else some (D.tup [D.agg [D.u64 0#64, D.u64 0#64], D.i IntKind.i64 2])
      else some (D.tup [D.agg [D.u64 0#64, D.u64 0#64], D.i IntKind.i64 2]) := by kernel_rfl
    refine nf.trans ?_
    unfold isF
    cases hw : okW t
    · simp [okS, okI, hw, ifF, errF]
    · have h0 := okW_ne hw
      simp only [okS, okI, hw, okW_div hw, if_neg h0, Bool.true_and]
      by_cases hz : z ≤ maskF t
      · by_cases h1 : 0 ≤ i
        · by_cases h2 : i < 128 / t
          · have h3 : ¬ i < 0 := by omega
            have h4 : ¬ 128 / t ≤ i := by omega
            simp [hz, h1, h2, h3, h4, ifF, errF]
          · have h3 : ¬ i < 0 := by omega
            have h4 : 128 / t ≤ i := by omega
            simp [hz, h1, h2, h3, h4, ifF, errF]
        · have h3 : i < 0 := by omega
          simp [hz, h1, h3, ifF, errF]
      · simp [hz, ifF, errF]
  · cases h

/-- Setting a lane of all lanes is setting it in the vector. -/
theorem and_fit {t : Int} (h : okW t = true) {z : BitVec 64} (hz : z ≤ maskF t) : z = z &&& maskF t := by
  have e := fit_eq h z
  rw [decide_eq_true hz, beq_iff_eq] at e
  apply BitVec.eq_of_getLsbD_eq
  intro j hj
  have h1 := congrArg (fun y => BitVec.getLsbD y j) e
  simp only [BitVec.getLsbD_and, BitVec.getLsbD_not, hj, decide_true, Bool.true_and, BitVec.getLsbD_zero] at h1
  simp only [BitVec.getLsbD_and]
  cases h2 : z.getLsbD j
  · rfl
  · rw [h2, Bool.true_and] at h1
    simpa using h1
section
variable {ρ : Nat → BitVec 64}
instance (x y : BitVec 64) (t i : Int) (z : BitVec 64) [r : Rf ρ x] [Rf ρ z] : Rf ρ (setF x y t i z).1 :=
  ⟨if 64 ≤ IntKind.i64.wrap (i * t) then r.e else (inferInstance : Rf ρ (put x (maskF t) (shW (IntKind.i64.wrap (i * t))) z)).e, by
    unfold setF
    split
    · exact r.ok
    · exact (inferInstance : Rf ρ (put x (maskF t) (shW (IntKind.i64.wrap (i * t))) z)).ok⟩
instance (x y : BitVec 64) (t i : Int) (z : BitVec 64) [s : Rf ρ y] [Rf ρ z] : Rf ρ (setF x y t i z).2 :=
  ⟨if 64 ≤ IntKind.i64.wrap (i * t) then (inferInstance : Rf ρ (put y (maskF t) (shW (IntKind.i64.wrap (IntKind.i64.wrap (i * t) - 64))) z)).e else s.e, by
    unfold setF
    split
    · exact (inferInstance : Rf ρ (put y (maskF t) (shW (IntKind.i64.wrap (IntKind.i64.wrap (i * t) - 64))) z)).ok
    · exact s.ok⟩
end
theorem rset8_0 (x y z : BitVec 64) : vecF 8 ((listF x y 8).set 0 (z &&& maskF 8)) = setF x y 8 0 (z &&& maskF 8) := by
  have e1 : asm [bt ((z &&& maskF 8)) 0, bt (getF x y 8 1) 0, bt (getF x y 8 2) 0, bt (getF x y 8 3) 0, bt (getF x y 8 4) 0, bt (getF x y 8 5) 0, bt (getF x y 8 6) 0, bt (getF x y 8 7) 0] = (setF x y 8 0 (z &&& maskF 8)).1 := route (ρ := at3 x y z) (by kernel_rfl)
  have e2 : asm [bt (getF x y 8 8) 0, bt (getF x y 8 9) 0, bt (getF x y 8 10) 0, bt (getF x y 8 11) 0, bt (getF x y 8 12) 0, bt (getF x y 8 13) 0, bt (getF x y 8 14) 0, bt (getF x y 8 15) 0] = (setF x y 8 0 (z &&& maskF 8)).2 := route (ρ := at3 x y z) (by kernel_rfl)
  exact Prod.ext (Eq.trans (by kernel_rfl) e1) (Eq.trans (by kernel_rfl) e2)
theorem rset8_1 (x y z : BitVec 64) : vecF 8 ((listF x y 8).set 1 (z &&& maskF 8)) = setF x y 8 1 (z &&& maskF 8) := by
  have e1 : asm [bt (getF x y 8 0) 0, bt ((z &&& maskF 8)) 0, bt (getF x y 8 2) 0, bt (getF x y 8 3) 0, bt (getF x y 8 4) 0, bt (getF x y 8 5) 0, bt (getF x y 8 6) 0, bt (getF x y 8 7) 0] = (setF x y 8 1 (z &&& maskF 8)).1 := route (ρ := at3 x y z) (by kernel_rfl)
  have e2 : asm [bt (getF x y 8 8) 0, bt (getF x y 8 9) 0, bt (getF x y 8 10) 0, bt (getF x y 8 11) 0, bt (getF x y 8 12) 0, bt (getF x y 8 13) 0, bt (getF x y 8 14) 0, bt (getF x y 8 15) 0] = (setF x y 8 1 (z &&& maskF 8)).2 := route (ρ := at3 x y z) (by kernel_rfl)
  exact Prod.ext (Eq.trans (by kernel_rfl) e1) (Eq.trans (by kernel_rfl) e2)
theorem rset8_2 (x y z : BitVec 64) : vecF 8 ((listF x y 8).set 2 (z &&& maskF 8)) = setF x y 8 2 (z &&& maskF 8) := by
  have e1 : asm [bt (getF x y 8 0) 0, bt (getF x y 8 1) 0, bt ((z &&& maskF 8)) 0, bt (getF x y 8 3) 0, bt (getF x y 8 4) 0, bt (getF x y 8 5) 0, bt (getF x y 8 6) 0, bt (getF x y 8 7) 0] = (setF x y 8 2 (z &&& maskF 8)).1 := route (ρ := at3 x y z) (by kernel_rfl)
  have e2 : asm [bt (getF x y 8 8) 0, bt (getF x y 8 9) 0, bt (getF x y 8 10) 0, bt (getF x y 8 11) 0, bt (getF x y 8 12) 0, bt (getF x y 8 13) 0, bt (getF x y 8 14) 0, bt (getF x y 8 15) 0] = (setF x y 8 2 (z &&& maskF 8)).2 := route (ρ := at3 x y z) (by kernel_rfl)
  exact Prod.ext (Eq.trans (by kernel_rfl) e1) (Eq.trans (by kernel_rfl) e2)
theorem rset8_3 (x y z : BitVec 64) : vecF 8 ((listF x y 8).set 3 (z &&& maskF 8)) = setF x y 8 3 (z &&& maskF 8) := by
  have e1 : asm [bt (getF x y 8 0) 0, bt (getF x y 8 1) 0, bt (getF x y 8 2) 0, bt ((z &&& maskF 8)) 0, bt (getF x y 8 4) 0, bt (getF x y 8 5) 0, bt (getF x y 8 6) 0, bt (getF x y 8 7) 0] = (setF x y 8 3 (z &&& maskF 8)).1 := route (ρ := at3 x y z) (by kernel_rfl)
  have e2 : asm [bt (getF x y 8 8) 0, bt (getF x y 8 9) 0, bt (getF x y 8 10) 0, bt (getF x y 8 11) 0, bt (getF x y 8 12) 0, bt (getF x y 8 13) 0, bt (getF x y 8 14) 0, bt (getF x y 8 15) 0] = (setF x y 8 3 (z &&& maskF 8)).2 := route (ρ := at3 x y z) (by kernel_rfl)
  exact Prod.ext (Eq.trans (by kernel_rfl) e1) (Eq.trans (by kernel_rfl) e2)
theorem rset8_4 (x y z : BitVec 64) : vecF 8 ((listF x y 8).set 4 (z &&& maskF 8)) = setF x y 8 4 (z &&& maskF 8) := by
  have e1 : asm [bt (getF x y 8 0) 0, bt (getF x y 8 1) 0, bt (getF x y 8 2) 0, bt (getF x y 8 3) 0, bt ((z &&& maskF 8)) 0, bt (getF x y 8 5) 0, bt (getF x y 8 6) 0, bt (getF x y 8 7) 0] = (setF x y 8 4 (z &&& maskF 8)).1 := route (ρ := at3 x y z) (by kernel_rfl)
  have e2 : asm [bt (getF x y 8 8) 0, bt (getF x y 8 9) 0, bt (getF x y 8 10) 0, bt (getF x y 8 11) 0, bt (getF x y 8 12) 0, bt (getF x y 8 13) 0, bt (getF x y 8 14) 0, bt (getF x y 8 15) 0] = (setF x y 8 4 (z &&& maskF 8)).2 := route (ρ := at3 x y z) (by kernel_rfl)
  exact Prod.ext (Eq.trans (by kernel_rfl) e1) (Eq.trans (by kernel_rfl) e2)
theorem rset8_5 (x y z : BitVec 64) : vecF 8 ((listF x y 8).set 5 (z &&& maskF 8)) = setF x y 8 5 (z &&& maskF 8) := by
  have e1 : asm [bt (getF x y 8 0) 0, bt (getF x y 8 1) 0, bt (getF x y 8 2) 0, bt (getF x y 8 3) 0, bt (getF x y 8 4) 0, bt ((z &&& maskF 8)) 0, bt (getF x y 8 6) 0, bt (getF x y 8 7) 0] = (setF x y 8 5 (z &&& maskF 8)).1 := route (ρ := at3 x y z) (by kernel_rfl)
  have e2 : asm [bt (getF x y 8 8) 0, bt (getF x y 8 9) 0, bt (getF x y 8 10) 0, bt (getF x y 8 11) 0, bt (getF x y 8 12) 0, bt (getF x y 8 13) 0, bt (getF x y 8 14) 0, bt (getF x y 8 15) 0] = (setF x y 8 5 (z &&& maskF 8)).2 := route (ρ := at3 x y z) (by kernel_rfl)
  exact Prod.ext (Eq.trans (by kernel_rfl) e1) (Eq.trans (by kernel_rfl) e2)
theorem rset8_6 (x y z : BitVec 64) : vecF 8 ((listF x y 8).set 6 (z &&& maskF 8)) = setF x y 8 6 (z &&& maskF 8) := by
  have e1 : asm [bt (getF x y 8 0) 0, bt (getF x y 8 1) 0, bt (getF x y 8 2) 0, bt (getF x y 8 3) 0, bt (getF x y 8 4) 0, bt (getF x y 8 5) 0, bt ((z &&& maskF 8)) 0, bt (getF x y 8 7) 0] = (setF x y 8 6 (z &&& maskF 8)).1 := route (ρ := at3 x y z) (by kernel_rfl)
  have e2 : asm [bt (getF x y 8 8) 0, bt (getF x y 8 9) 0, bt (getF x y 8 10) 0, bt (getF x y 8 11) 0, bt (getF x y 8 12) 0, bt (getF x y 8 13) 0, bt (getF x y 8 14) 0, bt (getF x y 8 15) 0] = (setF x y 8 6 (z &&& maskF 8)).2 := route (ρ := at3 x y z) (by kernel_rfl)
  exact Prod.ext (Eq.trans (by kernel_rfl) e1) (Eq.trans (by kernel_rfl) e2)
theorem rset8_7 (x y z : BitVec 64) : vecF 8 ((listF x y 8).set 7 (z &&& maskF 8)) = setF x y 8 7 (z &&& maskF 8) := by
  have e1 : asm [bt (getF x y 8 0) 0, bt (getF x y 8 1) 0, bt (getF x y 8 2) 0, bt (getF x y 8 3) 0, bt (getF x y 8 4) 0, bt (getF x y 8 5) 0, bt (getF x y 8 6) 0, bt ((z &&& maskF 8)) 0] = (setF x y 8 7 (z &&& maskF 8)).1 := route (ρ := at3 x y z) (by kernel_rfl)
  have e2 : asm [bt (getF x y 8 8) 0, bt (getF x y 8 9) 0, bt (getF x y 8 10) 0, bt (getF x y 8 11) 0, bt (getF x y 8 12) 0, bt (getF x y 8 13) 0, bt (getF x y 8 14) 0, bt (getF x y 8 15) 0] = (setF x y 8 7 (z &&& maskF 8)).2 := route (ρ := at3 x y z) (by kernel_rfl)
  exact Prod.ext (Eq.trans (by kernel_rfl) e1) (Eq.trans (by kernel_rfl) e2)
theorem rset8_8 (x y z : BitVec 64) : vecF 8 ((listF x y 8).set 8 (z &&& maskF 8)) = setF x y 8 8 (z &&& maskF 8) := by
  have e1 : asm [bt (getF x y 8 0) 0, bt (getF x y 8 1) 0, bt (getF x y 8 2) 0, bt (getF x y 8 3) 0, bt (getF x y 8 4) 0, bt (getF x y 8 5) 0, bt (getF x y 8 6) 0, bt (getF x y 8 7) 0] = (setF x y 8 8 (z &&& maskF 8)).1 := route (ρ := at3 x y z) (by kernel_rfl)
  have e2 : asm [bt ((z &&& maskF 8)) 0, bt (getF x y 8 9) 0, bt (getF x y 8 10) 0, bt (getF x y 8 11) 0, bt (getF x y 8 12) 0, bt (getF x y 8 13) 0, bt (getF x y 8 14) 0, bt (getF x y 8 15) 0] = (setF x y 8 8 (z &&& maskF 8)).2 := route (ρ := at3 x y z) (by kernel_rfl)
  exact Prod.ext (Eq.trans (by kernel_rfl) e1) (Eq.trans (by kernel_rfl) e2)
theorem rset8_9 (x y z : BitVec 64) : vecF 8 ((listF x y 8).set 9 (z &&& maskF 8)) = setF x y 8 9 (z &&& maskF 8) := by
  have e1 : asm [bt (getF x y 8 0) 0, bt (getF x y 8 1) 0, bt (getF x y 8 2) 0, bt (getF x y 8 3) 0, bt (getF x y 8 4) 0, bt (getF x y 8 5) 0, bt (getF x y 8 6) 0, bt (getF x y 8 7) 0] = (setF x y 8 9 (z &&& maskF 8)).1 := route (ρ := at3 x y z) (by kernel_rfl)
  have e2 : asm [bt (getF x y 8 8) 0, bt ((z &&& maskF 8)) 0, bt (getF x y 8 10) 0, bt (getF x y 8 11) 0, bt (getF x y 8 12) 0, bt (getF x y 8 13) 0, bt (getF x y 8 14) 0, bt (getF x y 8 15) 0] = (setF x y 8 9 (z &&& maskF 8)).2 := route (ρ := at3 x y z) (by kernel_rfl)
  exact Prod.ext (Eq.trans (by kernel_rfl) e1) (Eq.trans (by kernel_rfl) e2)
theorem rset8_10 (x y z : BitVec 64) : vecF 8 ((listF x y 8).set 10 (z &&& maskF 8)) = setF x y 8 10 (z &&& maskF 8) := by
  have e1 : asm [bt (getF x y 8 0) 0, bt (getF x y 8 1) 0, bt (getF x y 8 2) 0, bt (getF x y 8 3) 0, bt (getF x y 8 4) 0, bt (getF x y 8 5) 0, bt (getF x y 8 6) 0, bt (getF x y 8 7) 0] = (setF x y 8 10 (z &&& maskF 8)).1 := route (ρ := at3 x y z) (by kernel_rfl)
  have e2 : asm [bt (getF x y 8 8) 0, bt (getF x y 8 9) 0, bt ((z &&& maskF 8)) 0, bt (getF x y 8 11) 0, bt (getF x y 8 12) 0, bt (getF x y 8 13) 0, bt (getF x y 8 14) 0, bt (getF x y 8 15) 0] = (setF x y 8 10 (z &&& maskF 8)).2 := route (ρ := at3 x y z) (by kernel_rfl)
  exact Prod.ext (Eq.trans (by kernel_rfl) e1) (Eq.trans (by kernel_rfl) e2)
theorem rset8_11 (x y z : BitVec 64) : vecF 8 ((listF x y 8).set 11 (z &&& maskF 8)) = setF x y 8 11 (z &&& maskF 8) := by
  have e1 : asm [bt (getF x y 8 0) 0, bt (getF x y 8 1) 0, bt (getF x y 8 2) 0, bt (getF x y 8 3) 0, bt (getF x y 8 4) 0, bt (getF x y 8 5) 0, bt (getF x y 8 6) 0, bt (getF x y 8 7) 0] = (setF x y 8 11 (z &&& maskF 8)).1 := route (ρ := at3 x y z) (by kernel_rfl)
  have e2 : asm [bt (getF x y 8 8) 0, bt (getF x y 8 9) 0, bt (getF x y 8 10) 0, bt ((z &&& maskF 8)) 0, bt (getF x y 8 12) 0, bt (getF x y 8 13) 0, bt (getF x y 8 14) 0, bt (getF x y 8 15) 0] = (setF x y 8 11 (z &&& maskF 8)).2 := route (ρ := at3 x y z) (by kernel_rfl)
  exact Prod.ext (Eq.trans (by kernel_rfl) e1) (Eq.trans (by kernel_rfl) e2)
theorem rset8_12 (x y z : BitVec 64) : vecF 8 ((listF x y 8).set 12 (z &&& maskF 8)) = setF x y 8 12 (z &&& maskF 8) := by
  have e1 : asm [bt (getF x y 8 0) 0, bt (getF x y 8 1) 0, bt (getF x y 8 2) 0, bt (getF x y 8 3) 0, bt (getF x y 8 4) 0, bt (getF x y 8 5) 0, bt (getF x y 8 6) 0, bt (getF x y 8 7) 0] = (setF x y 8 12 (z &&& maskF 8)).1 := route (ρ := at3 x y z) (by kernel_rfl)
  have e2 : asm [bt (getF x y 8 8) 0, bt (getF x y 8 9) 0, bt (getF x y 8 10) 0, bt (getF x y 8 11) 0, bt ((z &&& maskF 8)) 0, bt (getF x y 8 13) 0, bt (getF x y 8 14) 0, bt (getF x y 8 15) 0] = (setF x y 8 12 (z &&& maskF 8)).2 := route (ρ := at3 x y z) (by kernel_rfl)
  exact Prod.ext (Eq.trans (by kernel_rfl) e1) (Eq.trans (by kernel_rfl) e2)
theorem rset8_13 (x y z : BitVec 64) : vecF 8 ((listF x y 8).set 13 (z &&& maskF 8)) = setF x y 8 13 (z &&& maskF 8) := by
  have e1 : asm [bt (getF x y 8 0) 0, bt (getF x y 8 1) 0, bt (getF x y 8 2) 0, bt (getF x y 8 3) 0, bt (getF x y 8 4) 0, bt (getF x y 8 5) 0, bt (getF x y 8 6) 0, bt (getF x y 8 7) 0] = (setF x y 8 13 (z &&& maskF 8)).1 := route (ρ := at3 x y z) (by kernel_rfl)
  have e2 : asm [bt (getF x y 8 8) 0, bt (getF x y 8 9) 0, bt (getF x y 8 10) 0, bt (getF x y 8 11) 0, bt (getF x y 8 12) 0, bt ((z &&& maskF 8)) 0, bt (getF x y 8 14) 0, bt (getF x y 8 15) 0] = (setF x y 8 13 (z &&& maskF 8)).2 := route (ρ := at3 x y z) (by kernel_rfl)
  exact Prod.ext (Eq.trans (by kernel_rfl) e1) (Eq.trans (by kernel_rfl) e2)
theorem rset8_14 (x y z : BitVec 64) : vecF 8 ((listF x y 8).set 14 (z &&& maskF 8)) = setF x y 8 14 (z &&& maskF 8) := by
  have e1 : asm [bt (getF x y 8 0) 0, bt (getF x y 8 1) 0, bt (getF x y 8 2) 0, bt (getF x y 8 3) 0, bt (getF x y 8 4) 0, bt (getF x y 8 5) 0, bt (getF x y 8 6) 0, bt (getF x y 8 7) 0] = (setF x y 8 14 (z &&& maskF 8)).1 := route (ρ := at3 x y z) (by kernel_rfl)
  have e2 : asm [bt (getF x y 8 8) 0, bt (getF x y 8 9) 0, bt (getF x y 8 10) 0, bt (getF x y 8 11) 0, bt (getF x y 8 12) 0, bt (getF x y 8 13) 0, bt ((z &&& maskF 8)) 0, bt (getF x y 8 15) 0] = (setF x y 8 14 (z &&& maskF 8)).2 := route (ρ := at3 x y z) (by kernel_rfl)
  exact Prod.ext (Eq.trans (by kernel_rfl) e1) (Eq.trans (by kernel_rfl) e2)
theorem rset8_15 (x y z : BitVec 64) : vecF 8 ((listF x y 8).set 15 (z &&& maskF 8)) = setF x y 8 15 (z &&& maskF 8) := by
  have e1 : asm [bt (getF x y 8 0) 0, bt (getF x y 8 1) 0, bt (getF x y 8 2) 0, bt (getF x y 8 3) 0, bt (getF x y 8 4) 0, bt (getF x y 8 5) 0, bt (getF x y 8 6) 0, bt (getF x y 8 7) 0] = (setF x y 8 15 (z &&& maskF 8)).1 := route (ρ := at3 x y z) (by kernel_rfl)
  have e2 : asm [bt (getF x y 8 8) 0, bt (getF x y 8 9) 0, bt (getF x y 8 10) 0, bt (getF x y 8 11) 0, bt (getF x y 8 12) 0, bt (getF x y 8 13) 0, bt (getF x y 8 14) 0, bt ((z &&& maskF 8)) 0] = (setF x y 8 15 (z &&& maskF 8)).2 := route (ρ := at3 x y z) (by kernel_rfl)
  exact Prod.ext (Eq.trans (by kernel_rfl) e1) (Eq.trans (by kernel_rfl) e2)
theorem rset16_0 (x y z : BitVec 64) : vecF 16 ((listF x y 16).set 0 (z &&& maskF 16)) = setF x y 16 0 (z &&& maskF 16) := by
  have e1 : asm [bt ((z &&& maskF 16)) 0, bt ((z &&& maskF 16)) 8, bt (getF x y 16 1) 0, bt (getF x y 16 1) 8, bt (getF x y 16 2) 0, bt (getF x y 16 2) 8, bt (getF x y 16 3) 0, bt (getF x y 16 3) 8] = (setF x y 16 0 (z &&& maskF 16)).1 := route (ρ := at3 x y z) (by kernel_rfl)
  have e2 : asm [bt (getF x y 16 4) 0, bt (getF x y 16 4) 8, bt (getF x y 16 5) 0, bt (getF x y 16 5) 8, bt (getF x y 16 6) 0, bt (getF x y 16 6) 8, bt (getF x y 16 7) 0, bt (getF x y 16 7) 8] = (setF x y 16 0 (z &&& maskF 16)).2 := route (ρ := at3 x y z) (by kernel_rfl)
  exact Prod.ext (Eq.trans (by kernel_rfl) e1) (Eq.trans (by kernel_rfl) e2)
theorem rset16_1 (x y z : BitVec 64) : vecF 16 ((listF x y 16).set 1 (z &&& maskF 16)) = setF x y 16 1 (z &&& maskF 16) := by
  have e1 : asm [bt (getF x y 16 0) 0, bt (getF x y 16 0) 8, bt ((z &&& maskF 16)) 0, bt ((z &&& maskF 16)) 8, bt (getF x y 16 2) 0, bt (getF x y 16 2) 8, bt (getF x y 16 3) 0, bt (getF x y 16 3) 8] = (setF x y 16 1 (z &&& maskF 16)).1 := route (ρ := at3 x y z) (by kernel_rfl)
  have e2 : asm [bt (getF x y 16 4) 0, bt (getF x y 16 4) 8, bt (getF x y 16 5) 0, bt (getF x y 16 5) 8, bt (getF x y 16 6) 0, bt (getF x y 16 6) 8, bt (getF x y 16 7) 0, bt (getF x y 16 7) 8] = (setF x y 16 1 (z &&& maskF 16)).2 := route (ρ := at3 x y z) (by kernel_rfl)
  exact Prod.ext (Eq.trans (by kernel_rfl) e1) (Eq.trans (by kernel_rfl) e2)
theorem rset16_2 (x y z : BitVec 64) : vecF 16 ((listF x y 16).set 2 (z &&& maskF 16)) = setF x y 16 2 (z &&& maskF 16) := by
  have e1 : asm [bt (getF x y 16 0) 0, bt (getF x y 16 0) 8, bt (getF x y 16 1) 0, bt (getF x y 16 1) 8, bt ((z &&& maskF 16)) 0, bt ((z &&& maskF 16)) 8, bt (getF x y 16 3) 0, bt (getF x y 16 3) 8] = (setF x y 16 2 (z &&& maskF 16)).1 := route (ρ := at3 x y z) (by kernel_rfl)
  have e2 : asm [bt (getF x y 16 4) 0, bt (getF x y 16 4) 8, bt (getF x y 16 5) 0, bt (getF x y 16 5) 8, bt (getF x y 16 6) 0, bt (getF x y 16 6) 8, bt (getF x y 16 7) 0, bt (getF x y 16 7) 8] = (setF x y 16 2 (z &&& maskF 16)).2 := route (ρ := at3 x y z) (by kernel_rfl)
  exact Prod.ext (Eq.trans (by kernel_rfl) e1) (Eq.trans (by kernel_rfl) e2)
theorem rset16_3 (x y z : BitVec 64) : vecF 16 ((listF x y 16).set 3 (z &&& maskF 16)) = setF x y 16 3 (z &&& maskF 16) := by
  have e1 : asm [bt (getF x y 16 0) 0, bt (getF x y 16 0) 8, bt (getF x y 16 1) 0, bt (getF x y 16 1) 8, bt (getF x y 16 2) 0, bt (getF x y 16 2) 8, bt ((z &&& maskF 16)) 0, bt ((z &&& maskF 16)) 8] = (setF x y 16 3 (z &&& maskF 16)).1 := route (ρ := at3 x y z) (by kernel_rfl)
  have e2 : asm [bt (getF x y 16 4) 0, bt (getF x y 16 4) 8, bt (getF x y 16 5) 0, bt (getF x y 16 5) 8, bt (getF x y 16 6) 0, bt (getF x y 16 6) 8, bt (getF x y 16 7) 0, bt (getF x y 16 7) 8] = (setF x y 16 3 (z &&& maskF 16)).2 := route (ρ := at3 x y z) (by kernel_rfl)
  exact Prod.ext (Eq.trans (by kernel_rfl) e1) (Eq.trans (by kernel_rfl) e2)
theorem rset16_4 (x y z : BitVec 64) : vecF 16 ((listF x y 16).set 4 (z &&& maskF 16)) = setF x y 16 4 (z &&& maskF 16) := by
  have e1 : asm [bt (getF x y 16 0) 0, bt (getF x y 16 0) 8, bt (getF x y 16 1) 0, bt (getF x y 16 1) 8, bt (getF x y 16 2) 0, bt (getF x y 16 2) 8, bt (getF x y 16 3) 0, bt (getF x y 16 3) 8] = (setF x y 16 4 (z &&& maskF 16)).1 := route (ρ := at3 x y z) (by kernel_rfl)
  have e2 : asm [bt ((z &&& maskF 16)) 0, bt ((z &&& maskF 16)) 8, bt (getF x y 16 5) 0, bt (getF x y 16 5) 8, bt (getF x y 16 6) 0, bt (getF x y 16 6) 8, bt (getF x y 16 7) 0, bt (getF x y 16 7) 8] = (setF x y 16 4 (z &&& maskF 16)).2 := route (ρ := at3 x y z) (by kernel_rfl)
  exact Prod.ext (Eq.trans (by kernel_rfl) e1) (Eq.trans (by kernel_rfl) e2)
theorem rset16_5 (x y z : BitVec 64) : vecF 16 ((listF x y 16).set 5 (z &&& maskF 16)) = setF x y 16 5 (z &&& maskF 16) := by
  have e1 : asm [bt (getF x y 16 0) 0, bt (getF x y 16 0) 8, bt (getF x y 16 1) 0, bt (getF x y 16 1) 8, bt (getF x y 16 2) 0, bt (getF x y 16 2) 8, bt (getF x y 16 3) 0, bt (getF x y 16 3) 8] = (setF x y 16 5 (z &&& maskF 16)).1 := route (ρ := at3 x y z) (by kernel_rfl)
  have e2 : asm [bt (getF x y 16 4) 0, bt (getF x y 16 4) 8, bt ((z &&& maskF 16)) 0, bt ((z &&& maskF 16)) 8, bt (getF x y 16 6) 0, bt (getF x y 16 6) 8, bt (getF x y 16 7) 0, bt (getF x y 16 7) 8] = (setF x y 16 5 (z &&& maskF 16)).2 := route (ρ := at3 x y z) (by kernel_rfl)
  exact Prod.ext (Eq.trans (by kernel_rfl) e1) (Eq.trans (by kernel_rfl) e2)
theorem rset16_6 (x y z : BitVec 64) : vecF 16 ((listF x y 16).set 6 (z &&& maskF 16)) = setF x y 16 6 (z &&& maskF 16) := by
  have e1 : asm [bt (getF x y 16 0) 0, bt (getF x y 16 0) 8, bt (getF x y 16 1) 0, bt (getF x y 16 1) 8, bt (getF x y 16 2) 0, bt (getF x y 16 2) 8, bt (getF x y 16 3) 0, bt (getF x y 16 3) 8] = (setF x y 16 6 (z &&& maskF 16)).1 := route (ρ := at3 x y z) (by kernel_rfl)
  have e2 : asm [bt (getF x y 16 4) 0, bt (getF x y 16 4) 8, bt (getF x y 16 5) 0, bt (getF x y 16 5) 8, bt ((z &&& maskF 16)) 0, bt ((z &&& maskF 16)) 8, bt (getF x y 16 7) 0, bt (getF x y 16 7) 8] = (setF x y 16 6 (z &&& maskF 16)).2 := route (ρ := at3 x y z) (by kernel_rfl)
  exact Prod.ext (Eq.trans (by kernel_rfl) e1) (Eq.trans (by kernel_rfl) e2)
theorem rset16_7 (x y z : BitVec 64) : vecF 16 ((listF x y 16).set 7 (z &&& maskF 16)) = setF x y 16 7 (z &&& maskF 16) := by
  have e1 : asm [bt (getF x y 16 0) 0, bt (getF x y 16 0) 8, bt (getF x y 16 1) 0, bt (getF x y 16 1) 8, bt (getF x y 16 2) 0, bt (getF x y 16 2) 8, bt (getF x y 16 3) 0, bt (getF x y 16 3) 8] = (setF x y 16 7 (z &&& maskF 16)).1 := route (ρ := at3 x y z) (by kernel_rfl)
  have e2 : asm [bt (getF x y 16 4) 0, bt (getF x y 16 4) 8, bt (getF x y 16 5) 0, bt (getF x y 16 5) 8, bt (getF x y 16 6) 0, bt (getF x y 16 6) 8, bt ((z &&& maskF 16)) 0, bt ((z &&& maskF 16)) 8] = (setF x y 16 7 (z &&& maskF 16)).2 := route (ρ := at3 x y z) (by kernel_rfl)
  exact Prod.ext (Eq.trans (by kernel_rfl) e1) (Eq.trans (by kernel_rfl) e2)
theorem rset32_0 (x y z : BitVec 64) : vecF 32 ((listF x y 32).set 0 (z &&& maskF 32)) = setF x y 32 0 (z &&& maskF 32) := by
  have e1 : asm [bt ((z &&& maskF 32)) 0, bt ((z &&& maskF 32)) 8, bt ((z &&& maskF 32)) 16, bt ((z &&& maskF 32)) 24, bt (getF x y 32 1) 0, bt (getF x y 32 1) 8, bt (getF x y 32 1) 16, bt (getF x y 32 1) 24] = (setF x y 32 0 (z &&& maskF 32)).1 := route (ρ := at3 x y z) (by kernel_rfl)
  have e2 : asm [bt (getF x y 32 2) 0, bt (getF x y 32 2) 8, bt (getF x y 32 2) 16, bt (getF x y 32 2) 24, bt (getF x y 32 3) 0, bt (getF x y 32 3) 8, bt (getF x y 32 3) 16, bt (getF x y 32 3) 24] = (setF x y 32 0 (z &&& maskF 32)).2 := route (ρ := at3 x y z) (by kernel_rfl)
  exact Prod.ext (Eq.trans (by kernel_rfl) e1) (Eq.trans (by kernel_rfl) e2)
theorem rset32_1 (x y z : BitVec 64) : vecF 32 ((listF x y 32).set 1 (z &&& maskF 32)) = setF x y 32 1 (z &&& maskF 32) := by
  have e1 : asm [bt (getF x y 32 0) 0, bt (getF x y 32 0) 8, bt (getF x y 32 0) 16, bt (getF x y 32 0) 24, bt ((z &&& maskF 32)) 0, bt ((z &&& maskF 32)) 8, bt ((z &&& maskF 32)) 16, bt ((z &&& maskF 32)) 24] = (setF x y 32 1 (z &&& maskF 32)).1 := route (ρ := at3 x y z) (by kernel_rfl)
  have e2 : asm [bt (getF x y 32 2) 0, bt (getF x y 32 2) 8, bt (getF x y 32 2) 16, bt (getF x y 32 2) 24, bt (getF x y 32 3) 0, bt (getF x y 32 3) 8, bt (getF x y 32 3) 16, bt (getF x y 32 3) 24] = (setF x y 32 1 (z &&& maskF 32)).2 := route (ρ := at3 x y z) (by kernel_rfl)
  exact Prod.ext (Eq.trans (by kernel_rfl) e1) (Eq.trans (by kernel_rfl) e2)
theorem rset32_2 (x y z : BitVec 64) : vecF 32 ((listF x y 32).set 2 (z &&& maskF 32)) = setF x y 32 2 (z &&& maskF 32) := by
  have e1 : asm [bt (getF x y 32 0) 0, bt (getF x y 32 0) 8, bt (getF x y 32 0) 16, bt (getF x y 32 0) 24, bt (getF x y 32 1) 0, bt (getF x y 32 1) 8, bt (getF x y 32 1) 16, bt (getF x y 32 1) 24] = (setF x y 32 2 (z &&& maskF 32)).1 := route (ρ := at3 x y z) (by kernel_rfl)
  have e2 : asm [bt ((z &&& maskF 32)) 0, bt ((z &&& maskF 32)) 8, bt ((z &&& maskF 32)) 16, bt ((z &&& maskF 32)) 24, bt (getF x y 32 3) 0, bt (getF x y 32 3) 8, bt (getF x y 32 3) 16, bt (getF x y 32 3) 24] = (setF x y 32 2 (z &&& maskF 32)).2 := route (ρ := at3 x y z) (by kernel_rfl)
  exact Prod.ext (Eq.trans (by kernel_rfl) e1) (Eq.trans (by kernel_rfl) e2)
theorem rset32_3 (x y z : BitVec 64) : vecF 32 ((listF x y 32).set 3 (z &&& maskF 32)) = setF x y 32 3 (z &&& maskF 32) := by
  have e1 : asm [bt (getF x y 32 0) 0, bt (getF x y 32 0) 8, bt (getF x y 32 0) 16, bt (getF x y 32 0) 24, bt (getF x y 32 1) 0, bt (getF x y 32 1) 8, bt (getF x y 32 1) 16, bt (getF x y 32 1) 24] = (setF x y 32 3 (z &&& maskF 32)).1 := route (ρ := at3 x y z) (by kernel_rfl)
  have e2 : asm [bt (getF x y 32 2) 0, bt (getF x y 32 2) 8, bt (getF x y 32 2) 16, bt (getF x y 32 2) 24, bt ((z &&& maskF 32)) 0, bt ((z &&& maskF 32)) 8, bt ((z &&& maskF 32)) 16, bt ((z &&& maskF 32)) 24] = (setF x y 32 3 (z &&& maskF 32)).2 := route (ρ := at3 x y z) (by kernel_rfl)
  exact Prod.ext (Eq.trans (by kernel_rfl) e1) (Eq.trans (by kernel_rfl) e2)
theorem rset64_0 (x y z : BitVec 64) : vecF 64 ((listF x y 64).set 0 (z &&& maskF 64)) = setF x y 64 0 (z &&& maskF 64) := by
  have e1 : asm [bt ((z &&& maskF 64)) 0, bt ((z &&& maskF 64)) 8, bt ((z &&& maskF 64)) 16, bt ((z &&& maskF 64)) 24, bt ((z &&& maskF 64)) 32, bt ((z &&& maskF 64)) 40, bt ((z &&& maskF 64)) 48, bt ((z &&& maskF 64)) 56] = (setF x y 64 0 (z &&& maskF 64)).1 := route (ρ := at3 x y z) (by kernel_rfl)
  have e2 : asm [bt (getF x y 64 1) 0, bt (getF x y 64 1) 8, bt (getF x y 64 1) 16, bt (getF x y 64 1) 24, bt (getF x y 64 1) 32, bt (getF x y 64 1) 40, bt (getF x y 64 1) 48, bt (getF x y 64 1) 56] = (setF x y 64 0 (z &&& maskF 64)).2 := route (ρ := at3 x y z) (by kernel_rfl)
  exact Prod.ext (Eq.trans (by kernel_rfl) e1) (Eq.trans (by kernel_rfl) e2)
theorem rset64_1 (x y z : BitVec 64) : vecF 64 ((listF x y 64).set 1 (z &&& maskF 64)) = setF x y 64 1 (z &&& maskF 64) := by
  have e1 : asm [bt (getF x y 64 0) 0, bt (getF x y 64 0) 8, bt (getF x y 64 0) 16, bt (getF x y 64 0) 24, bt (getF x y 64 0) 32, bt (getF x y 64 0) 40, bt (getF x y 64 0) 48, bt (getF x y 64 0) 56] = (setF x y 64 1 (z &&& maskF 64)).1 := route (ρ := at3 x y z) (by kernel_rfl)
  have e2 : asm [bt ((z &&& maskF 64)) 0, bt ((z &&& maskF 64)) 8, bt ((z &&& maskF 64)) 16, bt ((z &&& maskF 64)) 24, bt ((z &&& maskF 64)) 32, bt ((z &&& maskF 64)) 40, bt ((z &&& maskF 64)) 48, bt ((z &&& maskF 64)) 56] = (setF x y 64 1 (z &&& maskF 64)).2 := route (ρ := at3 x y z) (by kernel_rfl)
  exact Prod.ext (Eq.trans (by kernel_rfl) e1) (Eq.trans (by kernel_rfl) e2)
theorem rset {w i : Int} (hw : okW w = true) (h0 : 0 ≤ i) (h1 : i < 128 / w) (x y : BitVec 64) {z : BitVec 64} (hz : z ≤ maskF w) : vecF w ((listF x y w).set i.toNat z) = setF x y w i z := by
  rw [and_fit hw hz]
  rcases okW_cases hw with rfl | rfl | rfl | rfl
  · have : i = 0 ∨ i = 1 ∨ i = 2 ∨ i = 3 ∨ i = 4 ∨ i = 5 ∨ i = 6 ∨ i = 7 ∨ i = 8 ∨ i = 9 ∨ i = 10 ∨ i = 11 ∨ i = 12 ∨ i = 13 ∨ i = 14 ∨ i = 15 := by omega
    rcases this with rfl | rfl | rfl | rfl | rfl | rfl | rfl | rfl | rfl | rfl | rfl | rfl | rfl | rfl | rfl | rfl
    · exact rset8_0 x y z
    · exact rset8_1 x y z
    · exact rset8_2 x y z
    · exact rset8_3 x y z
    · exact rset8_4 x y z
    · exact rset8_5 x y z
    · exact rset8_6 x y z
    · exact rset8_7 x y z
    · exact rset8_8 x y z
    · exact rset8_9 x y z
    · exact rset8_10 x y z
    · exact rset8_11 x y z
    · exact rset8_12 x y z
    · exact rset8_13 x y z
    · exact rset8_14 x y z
    · exact rset8_15 x y z
  · have : i = 0 ∨ i = 1 ∨ i = 2 ∨ i = 3 ∨ i = 4 ∨ i = 5 ∨ i = 6 ∨ i = 7 := by omega
    rcases this with rfl | rfl | rfl | rfl | rfl | rfl | rfl | rfl
    · exact rset16_0 x y z
    · exact rset16_1 x y z
    · exact rset16_2 x y z
    · exact rset16_3 x y z
    · exact rset16_4 x y z
    · exact rset16_5 x y z
    · exact rset16_6 x y z
    · exact rset16_7 x y z
  · have : i = 0 ∨ i = 1 ∨ i = 2 ∨ i = 3 := by omega
    rcases this with rfl | rfl | rfl | rfl
    · exact rset32_0 x y z
    · exact rset32_1 x y z
    · exact rset32_2 x y z
    · exact rset32_3 x y z
  · have : i = 0 ∨ i = 1 := by omega
    rcases this with rfl | rfl
    · exact rset64_0 x y z
    · exact rset64_1 x y z
theorem set16no (x y : BitVec 64) (t i : Int) (z : BitVec 64) (h : okS t i z = false) : ex [(84, widthS), (85, fitsS)] (fun _ => []) Tryz.f41 [vec x y, .i .i64 t, .i .i64 i, .u64 z] some = some (.tup [vec 0#64 0#64, .i .i64 2]) := by
  have nf : ex [(84, widthS), (85, fitsS)] (fun _ => []) Tryz.f41 [vec x y, .i .i64 t, .i .i64 i, .u64 z] some = if (!okW t) = false then
      if decide (i < 0) = false then
        if t = 0 then none
        else
          if decide (IntKind.i64.wrap (Int.tdiv 128 t) ≤ i) = false then
            if (!decide (z ≤ maskF t)) = true then some (D.tup [D.agg [D.u64 0#64, D.u64 0#64], D.i IntKind.i64 2])
            else none
          else some (D.tup [D.agg [D.u64 0#64, D.u64 0#64], D.i IntKind.i64 2])
      else some (D.tup [D.agg [D.u64 0#64, D.u64 0#64], D.i IntKind.i64 2])
    else some (D.tup [D.agg [D.u64 0#64, D.u64 0#64], D.i IntKind.i64 2]) := by kernel_rfl
  refine nf.trans ?_
  cases hw : okW t
  · simp
  · have h0 := okW_ne hw
    simp only [okW_div hw, if_neg h0]
    simp only [okS, okI, hw, Bool.true_and] at h
    by_cases h1 : 0 ≤ i
    · have h3 : ¬ i < 0 := by omega
      by_cases h2 : i < 128 / t
      · have h4 : ¬ 128 / t ≤ i := by omega
        have hz : ¬ z ≤ maskF t := by intro hz; simp [h1, h2, hz] at h
        simp [h3, h4, hz]
      · have h4 : 128 / t ≤ i := by omega
        simp [h3, h4]
    · have h3 : i < 0 := by omega
      simp [h3]
abbrev Set16at (t i : Int) : Prop := ∀ (x y z : BitVec 64), ex [(84, widthS), (82, listS), (85, fitsS), (83, vecS)] (fun _ => []) Tryz.f41 [vec x y, .i .i64 t, .i .i64 i, .u64 z] some =
  if (!decide (z ≤ maskF t)) = true then some (.tup [vec 0#64 0#64, .i .i64 2]) else some (.tup [vec (vecF t ((listF x y t).set i.toNat z)).1 (vecF t ((listF x y t).set i.toNat z)).2, .i .i64 0])
theorem set16_8_0 : Set16at 8 0 := fun x y z => by kernel_rfl
theorem set16_8_1 : Set16at 8 1 := fun x y z => by kernel_rfl
theorem set16_8_2 : Set16at 8 2 := fun x y z => by kernel_rfl
theorem set16_8_3 : Set16at 8 3 := fun x y z => by kernel_rfl
theorem set16_8_4 : Set16at 8 4 := fun x y z => by kernel_rfl
theorem set16_8_5 : Set16at 8 5 := fun x y z => by kernel_rfl
theorem set16_8_6 : Set16at 8 6 := fun x y z => by kernel_rfl
theorem set16_8_7 : Set16at 8 7 := fun x y z => by kernel_rfl
theorem set16_8_8 : Set16at 8 8 := fun x y z => by kernel_rfl
theorem set16_8_9 : Set16at 8 9 := fun x y z => by kernel_rfl
theorem set16_8_10 : Set16at 8 10 := fun x y z => by kernel_rfl
theorem set16_8_11 : Set16at 8 11 := fun x y z => by kernel_rfl
theorem set16_8_12 : Set16at 8 12 := fun x y z => by kernel_rfl
theorem set16_8_13 : Set16at 8 13 := fun x y z => by kernel_rfl
theorem set16_8_14 : Set16at 8 14 := fun x y z => by kernel_rfl
theorem set16_8_15 : Set16at 8 15 := fun x y z => by kernel_rfl
theorem set16_16_0 : Set16at 16 0 := fun x y z => by kernel_rfl
theorem set16_16_1 : Set16at 16 1 := fun x y z => by kernel_rfl
theorem set16_16_2 : Set16at 16 2 := fun x y z => by kernel_rfl
theorem set16_16_3 : Set16at 16 3 := fun x y z => by kernel_rfl
theorem set16_16_4 : Set16at 16 4 := fun x y z => by kernel_rfl
theorem set16_16_5 : Set16at 16 5 := fun x y z => by kernel_rfl
theorem set16_16_6 : Set16at 16 6 := fun x y z => by kernel_rfl
theorem set16_16_7 : Set16at 16 7 := fun x y z => by kernel_rfl
theorem set16_32_0 : Set16at 32 0 := fun x y z => by kernel_rfl
theorem set16_32_1 : Set16at 32 1 := fun x y z => by kernel_rfl
theorem set16_32_2 : Set16at 32 2 := fun x y z => by kernel_rfl
theorem set16_32_3 : Set16at 32 3 := fun x y z => by kernel_rfl
theorem set16_64_0 : Set16at 64 0 := fun x y z => by kernel_rfl
theorem set16_64_1 : Set16at 64 1 := fun x y z => by kernel_rfl
theorem set16yes (t i : Int) (h : okI t i = true) : Set16at t i := by
  simp only [okI, Bool.and_eq_true, decide_eq_true_eq] at h
  obtain ⟨⟨hw, h0⟩, h1⟩ := h
  rcases okW_cases hw with rfl | rfl | rfl | rfl
  · have : i = 0 ∨ i = 1 ∨ i = 2 ∨ i = 3 ∨ i = 4 ∨ i = 5 ∨ i = 6 ∨ i = 7 ∨ i = 8 ∨ i = 9 ∨ i = 10 ∨ i = 11 ∨ i = 12 ∨ i = 13 ∨ i = 14 ∨ i = 15 := by omega
    rcases this with rfl | rfl | rfl | rfl | rfl | rfl | rfl | rfl | rfl | rfl | rfl | rfl | rfl | rfl | rfl | rfl
    · exact set16_8_0
    · exact set16_8_1
    · exact set16_8_2
    · exact set16_8_3
    · exact set16_8_4
    · exact set16_8_5
    · exact set16_8_6
    · exact set16_8_7
    · exact set16_8_8
    · exact set16_8_9
    · exact set16_8_10
    · exact set16_8_11
    · exact set16_8_12
    · exact set16_8_13
    · exact set16_8_14
    · exact set16_8_15
  · have : i = 0 ∨ i = 1 ∨ i = 2 ∨ i = 3 ∨ i = 4 ∨ i = 5 ∨ i = 6 ∨ i = 7 := by omega
    rcases this with rfl | rfl | rfl | rfl | rfl | rfl | rfl | rfl
    · exact set16_16_0
    · exact set16_16_1
    · exact set16_16_2
    · exact set16_16_3
    · exact set16_16_4
    · exact set16_16_5
    · exact set16_16_6
    · exact set16_16_7
  · have : i = 0 ∨ i = 1 ∨ i = 2 ∨ i = 3 := by omega
    rcases this with rfl | rfl | rfl | rfl
    · exact set16_32_0
    · exact set16_32_1
    · exact set16_32_2
    · exact set16_32_3
  · have : i = 0 ∨ i = 1 := by omega
    rcases this with rfl | rfl
    · exact set16_64_0
    · exact set16_64_1
theorem Set16 : Snd 41 SetS := by
  intro ds K r hK
  by_cases hok : ∃ x y t i z, ds = [.agg [.u64 x, .u64 y], .i .i64 t, .i .i64 i, .u64 z] ∧ okS t i z = true
  · have hS : Snd 41 (guarded fun
      | [.agg [.u64 x, .u64 y], .i .i64 t, .i .i64 i, .u64 z] => some (okS t i z, .tup [vec (setF x y t i z).1 (setF x y t i z).2, .i .i64 0])
      | _ => none) := by
      refine Sound.guard (execFn_sound (ann := fun _ => []) (TableOK.cons width42 (TableOK.cons list35 (TableOK.cons fits44 (TableOK.cons vec45 TableOK.nil)))) mixed Tryz.func41 (by kernel_rfl) 50) fun ds d h => ?_
      split at h
      · rename_i x y t i z
        simp only [Option.some.injEq, Prod.mk.injEq] at h
        obtain ⟨h, rfl⟩ := h
        have h' := h
        simp only [okS, Bool.and_eq_true, decide_eq_true_eq] at h'
        obtain ⟨hI, hz⟩ := h'
        refine (set16yes t i hI x y z).trans ?_
        simp only [okI, Bool.and_eq_true, decide_eq_true_eq] at hI
        rw [rset hI.1.1 hI.1.2 hI.2 x y hz]
        simp [hz]
      · cases h
    obtain ⟨x, y, t, i, z, rfl, h⟩ := hok
    refine hS _ K r ?_
    simp only [SetS, joined, h] at hK
    simp only [guarded, h]
    exact hK
  · have hS : Snd 41 (guarded fun
      | [.agg [.u64 x, .u64 y], .i .i64 t, .i .i64 i, .u64 z] => some (!okS t i z, .tup [vec 0#64 0#64, .i .i64 2])
      | _ => none) := by
      refine Sound.guard (execFn_sound (ann := fun _ => []) (TableOK.cons width42 (TableOK.cons fits44 TableOK.nil)) mixed Tryz.func41 (by kernel_rfl) 50) fun ds d h => ?_
      split at h
      · rename_i x y t i z
        simp only [Option.some.injEq, Prod.mk.injEq] at h
        obtain ⟨h, rfl⟩ := h
        exact set16no x y t i z (by simpa using h)
      · cases h
    refine hS _ K r ?_
    simp only [SetS, joined] at hK
    simp only [guarded]
    split at hK
    · rename_i d hd
      split at hd
      · rename_i x y t i z
        have h : okS t i z = false := by
          rw [← Bool.not_eq_true]
          intro h; exact hok ⟨x, y, t, i, z, rfl, h⟩
        cases hd
        rw [h] at hK
        simp only [h]
        exact hK
      · cases hd
    · cases hK
end Go.L23

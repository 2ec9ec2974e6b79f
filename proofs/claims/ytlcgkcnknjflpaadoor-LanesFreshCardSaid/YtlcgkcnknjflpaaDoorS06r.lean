/-
  Part of the proof; what its functions and lemmas say stands in the text.
-/
import Derived.Test.YtlcgkcnknjflpaaDoorS06q
set_option linter.unusedSimpArgs false
set_option linter.unusedVariables false
/-!
Chapter 06: LanesBack: there and back.
-/
namespace Go.L06
open Go.Ev Go.Proofs Go.RowKit Go.Rt

def widF (n : BitVec 8) : Int := IntKind.i64.wrap (8 * 2 ^ min (BitVec.setWidth 64 (n % BitVec.ofInt 8 4)).toNat IntKind.i64.bits)
theorem okW_wid (n : BitVec 8) : okW (widF n) = true := by
  revert n; decide +kernel
noncomputable def widS : Ev.Spec := joined fun | [.u8 n] => some (.i .i64 (widF n)) | _ => none
theorem wid18 : Snd 18 widS := by
  refine Sound.join (execFn_sound (ann := fun _ => []) TableOK.nil mixed Tryd.func18 (by kernel_rfl) 50) fun ds d h => ?_
  split at h
  · cases h; kernel_rfl
  · cases h

/-! What is got is put again -/
theorem vecF_list8 (x y : BitVec 64) : vecF 8 (listF x y 8) = (x, y) := by
  have e : ∀ x : BitVec 64, asm [bt (x >>> 0 &&& maskF 8) 0, bt (x >>> 8 &&& maskF 8) 0, bt (x >>> 16 &&& maskF 8) 0, bt (x >>> 24 &&& maskF 8) 0, bt (x >>> 32 &&& maskF 8) 0, bt (x >>> 40 &&& maskF 8) 0, bt (x >>> 48 &&& maskF 8) 0, bt (x >>> 56 &&& maskF 8) 0] = x := fun x => route (ρ := at3 x 0#64 0#64) (by kernel_rfl)
  exact Prod.ext (Eq.trans (by kernel_rfl) (e x)) (Eq.trans (by kernel_rfl) (e y))
theorem vecF_list16 (x y : BitVec 64) : vecF 16 (listF x y 16) = (x, y) := by
  have e : ∀ x : BitVec 64, asm [bt (x >>> 0 &&& maskF 16) 0, bt (x >>> 0 &&& maskF 16) 8, bt (x >>> 16 &&& maskF 16) 0, bt (x >>> 16 &&& maskF 16) 8, bt (x >>> 32 &&& maskF 16) 0, bt (x >>> 32 &&& maskF 16) 8, bt (x >>> 48 &&& maskF 16) 0, bt (x >>> 48 &&& maskF 16) 8] = x := fun x => route (ρ := at3 x 0#64 0#64) (by kernel_rfl)
  exact Prod.ext (Eq.trans (by kernel_rfl) (e x)) (Eq.trans (by kernel_rfl) (e y))
theorem vecF_list32 (x y : BitVec 64) : vecF 32 (listF x y 32) = (x, y) := by
  have e : ∀ x : BitVec 64, asm [bt (x >>> 0 &&& maskF 32) 0, bt (x >>> 0 &&& maskF 32) 8, bt (x >>> 0 &&& maskF 32) 16, bt (x >>> 0 &&& maskF 32) 24, bt (x >>> 32 &&& maskF 32) 0, bt (x >>> 32 &&& maskF 32) 8, bt (x >>> 32 &&& maskF 32) 16, bt (x >>> 32 &&& maskF 32) 24] = x := fun x => route (ρ := at3 x 0#64 0#64) (by kernel_rfl)
  exact Prod.ext (Eq.trans (by kernel_rfl) (e x)) (Eq.trans (by kernel_rfl) (e y))
theorem vecF_list64 (x y : BitVec 64) : vecF 64 (listF x y 64) = (x, y) := by
  have e : ∀ x : BitVec 64, asm [bt (x >>> 0 &&& maskF 64) 0, bt (x >>> 0 &&& maskF 64) 8, bt (x >>> 0 &&& maskF 64) 16, bt (x >>> 0 &&& maskF 64) 24, bt (x >>> 0 &&& maskF 64) 32, bt (x >>> 0 &&& maskF 64) 40, bt (x >>> 0 &&& maskF 64) 48, bt (x >>> 0 &&& maskF 64) 56] = x := fun x => route (ρ := at3 x 0#64 0#64) (by kernel_rfl)
  exact Prod.ext (Eq.trans (by kernel_rfl) (e x)) (Eq.trans (by kernel_rfl) (e y))
theorem vecF_list (x y : BitVec 64) {w : Int} (h : okW w = true) : vecF w (listF x y w) = (x, y) := by
  rcases okW_cases h with rfl | rfl | rfl | rfl
  · exact vecF_list8 x y
  · exact vecF_list16 x y
  · exact vecF_list32 x y
  · exact vecF_list64 x y
theorem and_le (x m : BitVec 64) : x &&& m ≤ m := by
  rw [BitVec.le_def, BitVec.toNat_and]
  exact Nat.and_le_right
theorem okOf_list (x y : BitVec 64) {w : Int} (h : okW w = true) : okOf w (listF x y w) = true := by
  simp only [okOf, h, listF_length, decide_true, Bool.true_and, List.all_eq_true]
  intro z hz
  simp only [listF, List.mem_map] at hz
  obtain ⟨i, _, rfl⟩ := hz
  unfold getF
  split <;> exact decide_eq_true (and_le _ _)
theorem bytes_back (x : BitVec 64) : w8 (bt x 0) (bt x 8) (bt x 16) (bt x 24) (bt x 32) (bt x 40) (bt x 48) (bt x 56) = x := route (ρ := at3 x 0#64 0#64) (by kernel_rfl)
def backT (x y : BitVec 64) (w : Int) (p q : BitVec 64) (ok : Bool) : Option D :=
  if okW w = true then
    if (inn (listF x y w) && true) = true then
      if okW w = true then
        if (errF ok == 0) = true then
          if w = 0 then none else
          if (((listF x y w).length : Int) == IntKind.i64.wrap (Int.tdiv 128 w)) = true then
            if (p == x && q == y) = true then
              if (inn (listF x y w) && (inn (listF p q w) && true)) = true then
                if decide ((tk (listF x y w)).length < 2 ^ 62 ∧ (tk (listF p q w)).length < 2 ^ 62) = true then
                  if (tk (listF x y w) == tk (listF p q w)) = true then
                    if (w8 (bt x 0) (bt x 8) (bt x 16) (bt x 24) (bt x 32) (bt x 40) (bt x 48) (bt x 56) == x && w8 (bt y 0) (bt y 8) (bt y 16) (bt y 24) (bt y 32) (bt y 40) (bt y 48) (bt y 56) == y) = true then some (.bool true) else some (.bool false)
                  else some (.bool false)
                else none
              else none
            else some (.bool false)
          else some (.bool false)
        else some (.bool false)
      else none
    else none
  else none
theorem nf12 (x y : BitVec 64) (n : BitVec 8) : ex [(18, widS), (28, left allF), (30, OfS), (33, WordsS), (24, bytesS), (26, ofBytesS), (17, worksS)] (fun _ => []) Tryd.f12 [vec x y, .u8 n] some =
  backT x y (widF n) (ifF (okOf (widF n) (tk (listF x y (widF n)))) (vecF (widF n) (tk (listF x y (widF n)))).1) (ifF (okOf (widF n) (tk (listF x y (widF n)))) (vecF (widF n) (tk (listF x y (widF n)))).2) (okOf (widF n) (tk (listF x y (widF n)))) := by kernel_rfl
theorem back12 : Snd 12 (trueS fun | [.agg [.u64 _, .u64 _], .u8 _] => true | _ => false) := by
  refine Sound.guard (execFn_sound (ann := fun _ => []) (TableOK.cons wid18 (TableOK.cons All28.left (TableOK.cons (OfJ Of30) (TableOK.cons Words33 (TableOK.cons bytes24 (TableOK.cons ofBytes26 (TableOK.cons works17 TableOK.nil))))))) mixed Tryd.func12 (by kernel_rfl) 50) fun ds d h => ?_
  simp only [Option.some.injEq, Prod.mk.injEq] at h
  obtain ⟨h, rfl⟩ := h
  split at h
  · rename_i x y n
    refine (nf12 x y n).trans ?_
    have hw := okW_wid n
    generalize widF n = w at hw
    rw [tk_eq, okOf_list x y hw, vecF_list x y hw]
    have h1 : (listF x y w).length < 2 ^ 62 := by
      rw [listF_length]
      rcases okW_cases hw with rfl | rfl | rfl | rfl <;> decide
    have h2 : (((listF x y w).length : Int) == IntKind.i64.wrap (Int.tdiv 128 w)) = true := by
      rw [listF_length, okW_div hw, okW_pos hw]; simp
    have h3 : ¬ w = 0 := okW_ne hw
    have h4 : (errF true == 0) = true := by decide
    simp only [backT, hw, if_true, inn_true, Bool.and_true, Bool.and_self, tk_eq, h1, h2, h3, h4, if_false, ifF, bytes_back, beq_self_eq_true, decide_true, and_self]
  · cases h
end Go.L06

/-
  Part of the proof; what its functions and lemmas say stands in the text.
-/
import Derived.Test.YtlcgkcnknjflpaaDoorS06m
set_option linter.unusedSimpArgs false
set_option linter.unusedVariables false
/-!
Chapter 06: the vector of lanes by the reference; splat by the reference; lists.
-/
namespace Go.L06
open Go.Ev Go.Proofs Go.RowKit Go.Rt

noncomputable abbrev width42noS : Ev.Spec := guarded fun | [.i .i64 t] => some (!okW t, .bool false) | _ => none
open Classical in
theorem Of31 : Snd 31 (two ofF) := by
  intro ds K r hK
  unfold two ofF at hK
  split at hK
  · rename_i b d e hF
    split at hF
    · rename_i w l
      cases hF
      by_cases hw : okW w = true
      · by_cases hl : l.length = (128 / w).toNat
        · refine execFn_sound (ann := ann31) (TableOK.cons width42 (TableOK.cons fits44 (TableOK.cons vec45 TableOK.nil))) mixed Tryd.func31 (by kernel_rfl) 50 |>.join (F := fun ds => if ds = [.i .i64 w, .sl64 l] then (if okOf w l = true then some (.tup [vec (vecF w l).1 (vecF w l).2, .i .i64 0]) else some ofErr) else none) ?_ _ K r ?_
          · intro ds d h
            split at h
            · rename_i hd
              subst hd
              rw [← h]
              rcases okW_cases hw with rfl | rfl | rfl | rfl
              · exact of31all_8 l hl
              · exact of31all_16 l hl
              · exact of31all_32 l hl
              · exact of31all_64 l hl
            · cases h
          · simp only [joined, if_true]
            split at hK
            · rename_i hk; rw [if_pos hk]; exact hK
            · rename_i hk; rw [if_neg hk]; exact hK
        · have hk : ¬ okOf w l = true := fun hk => hl (okOf_cases hk).2.1
          rw [if_neg hk] at hK
          refine execFn_sound (ann := fun _ => []) (TableOK.cons width42 TableOK.nil) mixed Tryd.func31 (by kernel_rfl) 50 |>.join (F := fun ds => if ds = [.i .i64 w, .sl64 l] then some ofErr else none) ?_ _ K r ?_
          · intro ds d h
            split at h
            · rename_i hd
              subst hd; cases h
              rcases okW_cases hw with rfl | rfl | rfl | rfl
              · exact (of31l_8 l).trans (if_pos (by simp; simp at hl; omega))
              · exact (of31l_16 l).trans (if_pos (by simp; simp at hl; omega))
              · exact (of31l_32 l).trans (if_pos (by simp; simp at hl; omega))
              · exact (of31l_64 l).trans (if_pos (by simp; simp at hl; omega))
            · cases h
          · simp only [joined, if_true]; exact hK
      · have hk : ¬ okOf w l = true := fun hk => hw (okOf_cases hk).1
        rw [if_neg hk] at hK
        refine execFn_sound (ann := fun _ => []) (TableOK.cons width42no TableOK.nil) mixed Tryd.func31 (by kernel_rfl) 50 |>.join (F := fun ds => if ds = [.i .i64 w, .sl64 l] then some ofErr else none) ?_ _ K r ?_
        · intro ds d h
          split at h
          · rename_i hd
            subst hd; cases h
            have nf : ex [(42, width42noS)] (fun _ => []) Tryd.f31 [.i .i64 w, .sl64 l] some = if (!okW w) = true then some ofErr else none := by kernel_rfl
            exact nf.trans (if_pos (by simpa using hw))
          · cases h
        · simp only [joined, if_true]; exact hK
    · rename_i w
      cases hF
      rw [if_neg (by simp)] at hK
      by_cases hw : okW w = true
      · refine execFn_sound (ann := ann31) (TableOK.cons width42 TableOK.nil) mixed Tryd.func31 (by kernel_rfl) 50 |>.join (F := fun ds => if ds = [.i .i64 w, nilS] then some ofErr else none) ?_ _ K r ?_
        · intro ds d h
          split at h
          · rename_i hd
            subst hd; cases h
            rcases okW_cases hw with rfl | rfl | rfl | rfl
            · exact of31n_8
            · exact of31n_16
            · exact of31n_32
            · exact of31n_64
          · cases h
        · simp only [joined, if_true]; exact hK
      · refine execFn_sound (ann := fun _ => []) (TableOK.cons width42no TableOK.nil) mixed Tryd.func31 (by kernel_rfl) 50 |>.join (F := fun ds => if ds = [.i .i64 w, nilS] then some ofErr else none) ?_ _ K r ?_
        · intro ds d h
          split at h
          · rename_i hd
            subst hd; cases h
            have nf : ex [(42, width42noS)] (fun _ => []) Tryd.f31 [.i .i64 w, nilS] some = if (!okW w) = true then some ofErr else none := by kernel_rfl
            exact nf.trans (if_pos (by simpa using hw))
          · cases h
        · simp only [joined, if_true]; exact hK
    · cases hF
  · cases hK
noncomputable def OfS : Ev.Spec := joined fun
  | [.i .i64 w, .sl64 l] => some (.tup [vec (ifF (okOf w l) (vecF w l).1) (ifF (okOf w l) (vecF w l).2), .i .i64 (errF (okOf w l))])
  | [.i .i64 _, .c (.slice none 0 0)] => some ofErr
  | _ => none
theorem OfJ {f : Nat} (h : Snd f (two ofF)) : Snd f OfS := h.merge fun ds d hJ => by
  split at hJ
  · rename_i w l
    cases hJ
    refine ⟨_, _, _, rfl, ?_⟩
    cases okOf w l <;> rfl
  · cases hJ
    exact ⟨_, _, _, rfl, rfl⟩
  · cases hJ

/-! Splat by the reference -/
def ann32 : Nat → List Nat := fun | 5 => [0, 1, 4, 6, 7] | _ => []
instance {ρ : Nat → BitVec 64} (x : BitVec 64) (k : Nat) [r : Rf ρ x] : Rf ρ (dbl x k) := ⟨.or r.e (.shl r.e k), by simp only [RE.sem, r.ok]; rfl⟩
theorem spl_8 (x : BitVec 64) : vecF 8 (List.replicate 16 (x &&& maskF 8)) = (splW 8 (x &&& maskF 8), splW 8 (x &&& maskF 8)) := by
  have e : asm [bt (x &&& maskF 8) 0, bt (x &&& maskF 8) 0, bt (x &&& maskF 8) 0, bt (x &&& maskF 8) 0, bt (x &&& maskF 8) 0, bt (x &&& maskF 8) 0, bt (x &&& maskF 8) 0, bt (x &&& maskF 8) 0] = dbl (dbl (dbl (x &&& maskF 8) 8) 16) 32 := route (ρ := at3 x 0#64 0#64) (by kernel_rfl)
  exact Prod.ext (Eq.trans (by kernel_rfl) e) (Eq.trans (by kernel_rfl) e)
theorem spl32_8 (x : BitVec 64) : ex [(42, widthS), (44, fitsS), (45, vecS)] ann32 Tryd.f32 [.i .i64 8, .u64 x] some = if (!decide (x ≤ maskF 8)) = true then some ofErr else some (.tup [vec (vecF 8 (List.replicate 16 x)).1 (vecF 8 (List.replicate 16 x)).2, .i .i64 0]) := by kernel_rfl
theorem spl_16 (x : BitVec 64) : vecF 16 (List.replicate 8 (x &&& maskF 16)) = (splW 16 (x &&& maskF 16), splW 16 (x &&& maskF 16)) := by
  have e : asm [bt (x &&& maskF 16) 0, bt (x &&& maskF 16) 8, bt (x &&& maskF 16) 0, bt (x &&& maskF 16) 8, bt (x &&& maskF 16) 0, bt (x &&& maskF 16) 8, bt (x &&& maskF 16) 0, bt (x &&& maskF 16) 8] = dbl (dbl (x &&& maskF 16) 16) 32 := route (ρ := at3 x 0#64 0#64) (by kernel_rfl)
  exact Prod.ext (Eq.trans (by kernel_rfl) e) (Eq.trans (by kernel_rfl) e)
theorem spl32_16 (x : BitVec 64) : ex [(42, widthS), (44, fitsS), (45, vecS)] ann32 Tryd.f32 [.i .i64 16, .u64 x] some = if (!decide (x ≤ maskF 16)) = true then some ofErr else some (.tup [vec (vecF 16 (List.replicate 8 x)).1 (vecF 16 (List.replicate 8 x)).2, .i .i64 0]) := by kernel_rfl
theorem spl_32 (x : BitVec 64) : vecF 32 (List.replicate 4 (x &&& maskF 32)) = (splW 32 (x &&& maskF 32), splW 32 (x &&& maskF 32)) := by
  have e : asm [bt (x &&& maskF 32) 0, bt (x &&& maskF 32) 8, bt (x &&& maskF 32) 16, bt (x &&& maskF 32) 24, bt (x &&& maskF 32) 0, bt (x &&& maskF 32) 8, bt (x &&& maskF 32) 16, bt (x &&& maskF 32) 24] = dbl (x &&& maskF 32) 32 := route (ρ := at3 x 0#64 0#64) (by kernel_rfl)
  exact Prod.ext (Eq.trans (by kernel_rfl) e) (Eq.trans (by kernel_rfl) e)
theorem spl32_32 (x : BitVec 64) : ex [(42, widthS), (44, fitsS), (45, vecS)] ann32 Tryd.f32 [.i .i64 32, .u64 x] some = if (!decide (x ≤ maskF 32)) = true then some ofErr else some (.tup [vec (vecF 32 (List.replicate 4 x)).1 (vecF 32 (List.replicate 4 x)).2, .i .i64 0]) := by kernel_rfl
theorem spl_64 (x : BitVec 64) : vecF 64 (List.replicate 2 (x &&& maskF 64)) = (splW 64 (x &&& maskF 64), splW 64 (x &&& maskF 64)) := by
  have e : asm [bt (x &&& maskF 64) 0, bt (x &&& maskF 64) 8, bt (x &&& maskF 64) 16, bt (x &&& maskF 64) 24, bt (x &&& maskF 64) 32, bt (x &&& maskF 64) 40, bt (x &&& maskF 64) 48, bt (x &&& maskF 64) 56] = x &&& maskF 64 := route (ρ := at3 x 0#64 0#64) (by kernel_rfl)
  exact Prod.ext (Eq.trans (by kernel_rfl) e) (Eq.trans (by kernel_rfl) e)
theorem spl32_64 (x : BitVec 64) : ex [(42, widthS), (44, fitsS), (45, vecS)] ann32 Tryd.f32 [.i .i64 64, .u64 x] some = if (!decide (x ≤ maskF 64)) = true then some ofErr else some (.tup [vec (vecF 64 (List.replicate 2 x)).1 (vecF 64 (List.replicate 2 x)).2, .i .i64 0]) := by kernel_rfl
open Classical in
theorem Spl32 : Snd 32 SplS := by
  intro ds K r hK
  unfold SplS joined at hK
  split at hK
  · rename_i d hF
    dsimp only at hF
    split at hF
    · rename_i w x
      cases hF
      by_cases hw : okW w = true
      · refine execFn_sound (ann := ann32) (TableOK.cons width42 (TableOK.cons fits44 (TableOK.cons vec45 TableOK.nil))) mixed Tryd.func32 (by kernel_rfl) 50 |>.join (F := fun ds => if ds = [.i .i64 w, .u64 x] then some (.tup [vec (ifF (isF w x) (splW w x)) (ifF (isF w x) (splW w x)), .i .i64 (errF (isF w x))]) else none) ?_ _ K r ?_
        · intro ds d h
          split at h
          · rename_i hd
            subst hd
            rw [← h]
            have fin : ∀ (v : BitVec 64 × BitVec 64), (x ≤ maskF w → v = (splW w x, splW w x)) → (if (!decide (x ≤ maskF w)) = true then some ofErr else some (.tup [vec v.1 v.2, .i .i64 0])) = some (D.tup [vec (ifF (isF w x) (splW w x)) (ifF (isF w x) (splW w x)), .i .i64 (errF (isF w x))]) := by
              intro v hv
              by_cases hx : x ≤ maskF w
              · rw [hv hx]; simp [hx, isF, hw, ifF, errF]
              · simp [hx, isF, hw, ifF, errF]
            rcases okW_cases hw with rfl | rfl | rfl | rfl
            · exact (spl32_8 x).trans (fin _ fun hx => by have := spl_8 x; rw [← and_fit hw hx] at this; exact this)
            · exact (spl32_16 x).trans (fin _ fun hx => by have := spl_16 x; rw [← and_fit hw hx] at this; exact this)
            · exact (spl32_32 x).trans (fin _ fun hx => by have := spl_32 x; rw [← and_fit hw hx] at this; exact this)
            · exact (spl32_64 x).trans (fin _ fun hx => by have := spl_64 x; rw [← and_fit hw hx] at this; exact this)
          · cases h
        · simp only [joined, if_true]; exact hK
      · refine execFn_sound (ann := fun _ => []) (TableOK.cons width42no TableOK.nil) mixed Tryd.func32 (by kernel_rfl) 50 |>.join (F := fun ds => if ds = [.i .i64 w, .u64 x] then some ofErr else none) ?_ _ K r ?_
        · intro ds d h
          split at h
          · rename_i hd
            subst hd; cases h
            have nf : ex [(42, width42noS)] (fun _ => []) Tryd.f32 [.i .i64 w, .u64 x] some = if (!okW w) = true then some ofErr else none := by kernel_rfl
            exact nf.trans (if_pos (by simpa using hw))
          · cases h
        · simp only [joined, if_true]
          have : isF w x = false := by simp [isF, hw]
          rw [this] at hK
          exact hK
    · cases hF
  · cases hK
end Go.L06

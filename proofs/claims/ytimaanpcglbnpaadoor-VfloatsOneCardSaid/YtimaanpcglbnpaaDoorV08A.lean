/-
  Part of the proof; what its functions and lemmas say stands in the text.
-/
import Derived.Test.YtimaanpcglbnpaaDoorRt
import Derived.Test.YtimaanpcglbnpaaDoorEvE
import Derived.Test.YtimaanpcglbnpaaDoorS08A
import Derived.Test.YtimaanpcglbnpaaDoorWhA
set_option linter.unusedSimpArgs false
set_option linter.unusedVariables false
/-!
Chapter 06: what the functions answer.
-/
namespace Go.L08
open Go.Ev Go.Proofs Go.RowKit
open Go.Wh

/-! masks -/
theorem mask48 : Snd 87 maskS := by
  refine Sound.join (execFn_sound (ann := fun _ => []) TableOK.nil mixed Tryd.func87 (by kernel_rfl) 50) fun ds d h => ?_
  split at h
  · rename_i t
    cases h
    kernel_rfl
  · cases h
/-! widths -/
/-! what fits -/
noncomputable def oneS : Ev.Spec := joined fun
  | [.u8 31#8, .i .i64 t, .u64 x] => some (.tup [.u64 (ifF (mayF t [x]) (~~~x &&& maskF t)), .i .i64 (errF (mayF t [x]))])
  | _ => none
theorem one47 : Snd 86 oneS := by
  refine Sound.join (execFn_sound (ann := fun _ => []) (TableOK.cons t_may (TableOK.cons t_mask TableOK.nil)) mixed Tryd.func86 (by kernel_rfl) 50) fun ds d h => ?_
  split at h
  · rename_i t x
    cases h
    have nf : ex [(116, mayS), (121, maskOS)] (fun _ => []) Tryd.f86 [.u8 31#8, .i .i64 t, .u64 x] some =
      if (!mayF t [x]) = true then some (D.tup [D.u64 0#64, D.i IntKind.i64 2])
      else (if okW t = true then some (D.tup [D.u64 (~~~x &&& maskF t), D.i IntKind.i64 0]) else none) := by kernel_rfl
    refine nf.trans ?_
    cases hm : mayF t [x]
    · rfl
    · have : okW t = true := by
        unfold mayF at hm
        rw [Bool.and_eq_true] at hm
        exact hm.1
      rw [this]; rfl
  · cases h
def isF (t : Int) (x : BitVec 64) : Bool := okW t && decide (x ≤ maskF t)
noncomputable def isS : Ev.Spec := joined fun | [.i .i64 t, .u64 x] => some (.bool (isF t x)) | _ => none
theorem is40 : Snd 49 isS := by
  refine Sound.join (execFn_sound (ann := fun _ => []) (TableOK.cons one47 TableOK.nil) mixed Tryd.func49 (by kernel_rfl) 50) fun ds d h => ?_
  split at h
  · rename_i t x
    cases h
    have nf : ex [(86, oneS)] (fun _ => []) Tryd.f49 [.i .i64 t, .u64 x] some = some (.bool (errF (mayF t [x]) == 0)) := by kernel_rfl
    refine nf.trans ?_
    have : isF t x = mayF t [x] := by simp [isF, mayF]
    rw [this]
    cases mayF t [x] <;> rfl
  · cases h

/-! lanes -/
def shW (n : Int) : Nat := (BitVec.ofInt 64 n).toNat
def getF (x y : BitVec 64) (t i : Int) : BitVec 64 := if 64 ≤ IntKind.i64.wrap (i * t) then y >>> shW (IntKind.i64.wrap (IntKind.i64.wrap (i * t) - 64)) &&& maskF t else x >>> shW (IntKind.i64.wrap (i * t)) &&& maskF t
noncomputable def getS : Ev.Spec := joined fun | [.agg [.u64 x, .u64 y], .i .i64 t, .i .i64 i] => some (.u64 (getF x y t i)) | _ => none
theorem get41 : Snd 50 getS := by
  refine Sound.join (execFn_sound (ann := fun _ => []) (TableOK.cons mask48 TableOK.nil) mixed Tryd.func50 (by kernel_rfl) 50) fun ds d h => ?_
  split at h
  · rename_i x y t i
    cases h
    have nf : ex [(87, maskS)] (fun _ => []) Tryd.f50 [vec x y, .i .i64 t, .i .i64 i] some = if decide (64 ≤ IntKind.i64.wrap (i * t)) = true then
        some (D.u64 (y >>> shW (IntKind.i64.wrap (IntKind.i64.wrap (i * t) - 64)) &&& maskF t))
      else some (D.u64 (x >>> shW (IntKind.i64.wrap (i * t)) &&& maskF t)) := by kernel_rfl
    refine nf.trans ?_
    unfold getF
    simp only [decide_eq_true_eq]
    split <;> rfl
  · cases h
def put (x m : BitVec 64) (k : Nat) (z : BitVec 64) : BitVec 64 := x &&& ~~~ (m <<< k) ||| z <<< k
def setF (x y : BitVec 64) (t i : Int) (z : BitVec 64) : BitVec 64 × BitVec 64 :=
  if 64 ≤ IntKind.i64.wrap (i * t) then (x, put y (maskF t) (shW (IntKind.i64.wrap (IntKind.i64.wrap (i * t) - 64))) z) else (put x (maskF t) (shW (IntKind.i64.wrap (i * t))) z, y)
noncomputable def setS : Ev.Spec := joined fun | [.agg [.u64 x, .u64 y], .i .i64 t, .i .i64 i, .u64 z] => some (vec (setF x y t i z).1 (setF x y t i z).2) | _ => none
theorem set43 : Snd 95 setS := by
  refine Sound.join (execFn_sound (ann := fun _ => []) (TableOK.cons mask48 TableOK.nil) mixed Tryd.func95 (by kernel_rfl) 50) fun ds d h => ?_
  split at h
  · rename_i x y t i z
    cases h
    have nf : ex [(87, maskS)] (fun _ => []) Tryd.f95 [vec x y, .i .i64 t, .i .i64 i, .u64 z] some = if decide (64 ≤ IntKind.i64.wrap (i * t)) = true then
        some (vec x (put y (maskF t) (shW (IntKind.i64.wrap (IntKind.i64.wrap (i * t) - 64))) z))
      else some (vec (put x (maskF t) (shW (IntKind.i64.wrap (i * t))) z) y) := by kernel_rfl
    refine nf.trans ?_
    unfold setF
    simp only [decide_eq_true_eq]
    split <;> rfl
  · cases h
end Go.L08
/-!
Chapter 06: bytes.
-/
namespace Go.L08
open Go.Ev Go.Proofs Go.RowKit Go.Rt
open Go.Wh

/-- Byte k / 8. -/
def bt (x : BitVec 64) (k : Nat) : BitVec 8 := BitVec.setWidth 8 (x >>> k)
def bytesF (x y : BitVec 64) : List (BitVec 8) := [bt x 0, bt x 8, bt x 16, bt x 24, bt x 32, bt x 40, bt x 48, bt x 56, bt y 0, bt y 8, bt y 16, bt y 24, bt y 32, bt y 40, bt y 48, bt y 56]
noncomputable def bytesS : Ev.Spec := joined fun | [.agg [.u64 x, .u64 y]] => some (.a8 (bytesF x y)) | _ => none
def ann24 : Nat → List Nat := fun | 3 => [1, 2, 3, 5] | _ => []
def ann25 : Nat → List Nat := fun | 3 => [1, 2, 3, 4] | _ => []
theorem bytes25 : Snd 67 bytesS := by
  refine Sound.join (execFn_sound (ann := ann25) TableOK.nil mixed Tryd.func67 (by kernel_rfl) 50) fun ds d h => ?_
  split at h
  · cases h; kernel_rfl
  · cases h
theorem bt_mask (x : BitVec 64) (k : Nat) : BitVec.setWidth 8 (x >>> k &&& maskF 8) = bt x k := by
  have e : maskF 8 = 255#64 := by decide
  rw [e]
  apply BitVec.eq_of_getLsbD_eq
  intro j hj
  have h255 : (255#8).getLsbD j = true := by
    have : j = 0 ∨ j = 1 ∨ j = 2 ∨ j = 3 ∨ j = 4 ∨ j = 5 ∨ j = 6 ∨ j = 7 := by omega
    rcases this with rfl | rfl | rfl | rfl | rfl | rfl | rfl | rfl <;> decide
  simp [bt, h255]
/-- Eight bytes as a word. -/
def zx (b : BitVec 8) : BitVec 64 := BitVec.setWidth 64 b
def w8 (b0 b1 b2 b3 b4 b5 b6 b7 : BitVec 8) : BitVec 64 :=
  256#64 * (256#64 * (256#64 * (256#64 * (256#64 * (256#64 * (256#64 * (0#64 + zx b7) + zx b6) + zx b5) + zx b4) + zx b3) + zx b2) + zx b1) + zx b0
noncomputable def ofBytesS : Ev.Spec := joined fun
  | [.a8 [b0, b1, b2, b3, b4, b5, b6, b7, b8, b9, b10, b11, b12, b13, b14, b15]] => some (vec (w8 b0 b1 b2 b3 b4 b5 b6 b7) (w8 b8 b9 b10 b11 b12 b13 b14 b15))
  | _ => none
def ann27 : Nat → List Nat := fun | 3 => [1, 2, 3, 4] | _ => []
theorem ofBytes27 : Snd 74 ofBytesS := by
  refine Sound.join (execFn_sound (ann := ann27) TableOK.nil mixed Tryd.func74 (by kernel_rfl) 50) fun ds d h => ?_
  split at h
  · cases h; kernel_rfl
  · cases h

/-! lanes.set at two ways -/
theorem Sound.two {P : Program} {G : List (Nat × SV)} {f : FuncId} {s : Ev.Spec} {F : List D → Option (Bool × D × D)} (hs : Sound P G f s) (h : ∀ ds b d e, F ds = some (b, d, e) → s ds some = some (if b = true then d else e)) :
    Sound P G f (fun ds K => match F ds with | some (b, d, e) => if b = true then K d else K e | none => none) := by
  intro ds K r hK
  simp only [] at hK
  split at hK
  · rename_i b d e hF
    obtain ⟨d', h1, h2⟩ := hs ds some _ (h ds b d e hF)
    cases h1
    split at hK
    · rename_i hb; rw [if_pos hb] at h2; exact ⟨d, hK, h2⟩
    · rename_i hb; rw [if_neg hb] at h2; exact ⟨e, hK, h2⟩
  · cases hK
noncomputable def setC : Ev.Spec := fun ds K => match (match ds with
    | [.agg [.u64 x, .u64 y], .i .i64 t, .i .i64 i, .u64 z] => some (decide (64 ≤ IntKind.i64.wrap (i * t)), vec x (put y (maskF t) (shW (IntKind.i64.wrap (IntKind.i64.wrap (i * t) - 64))) z), vec (put x (maskF t) (shW (IntKind.i64.wrap (i * t))) z) y)
    | _ => none : Option (Bool × D × D)) with
  | some (b, d, e) => if b = true then K d else K e
  | none => none
theorem setC43 : Snd 95 setC := by
  refine Sound.two (F := fun ds => match ds with
    | [.agg [.u64 x, .u64 y], .i .i64 t, .i .i64 i, .u64 z] => some (decide (64 ≤ IntKind.i64.wrap (i * t)), vec x (put y (maskF t) (shW (IntKind.i64.wrap (IntKind.i64.wrap (i * t) - 64))) z), vec (put x (maskF t) (shW (IntKind.i64.wrap (i * t))) z) y)
    | _ => none) (execFn_sound (ann := fun _ => []) (TableOK.cons mask48 TableOK.nil) mixed Tryd.func95 (by kernel_rfl) 50) fun ds b d e h => ?_
  split at h
  · rename_i x y t i z
    cases h
    have nf : ex [(87, maskS)] (fun _ => []) Tryd.f95 [vec x y, .i .i64 t, .i .i64 i, .u64 z] some = if decide (64 ≤ IntKind.i64.wrap (i * t)) = true then
        some (vec x (put y (maskF t) (shW (IntKind.i64.wrap (IntKind.i64.wrap (i * t) - 64))) z))
      else some (vec (put x (maskF t) (shW (IntKind.i64.wrap (i * t))) z) y) := by kernel_rfl
    refine nf.trans ?_
    split
    · rfl
    · rfl
  · cases h

def at8 (b0 b1 b2 b3 b4 b5 b6 b7 : BitVec 8) : Nat → BitVec 64
  | 0 => zx b0 | 1 => zx b1 | 2 => zx b2 | 3 => zx b3 | 4 => zx b4 | 5 => zx b5 | 6 => zx b6 | 7 => zx b7
  | _ => 0#64
theorem low_zx (b : BitVec 8) : BitVec.setWidth 64 (BitVec.setWidth 8 (zx b)) = zx b := by
  apply BitVec.eq_of_toNat_eq
  have := b.isLt
  simp [zx]
section
variable (b0 b1 b2 b3 b4 b5 b6 b7 : BitVec 8)
instance : Rf (at8 b0 b1 b2 b3 b4 b5 b6 b7) (zx b0) := ⟨.low (.atom 0) 8, low_zx _⟩
instance : Rf (at8 b0 b1 b2 b3 b4 b5 b6 b7) (zx b1) := ⟨.low (.atom 1) 8, low_zx _⟩
instance : Rf (at8 b0 b1 b2 b3 b4 b5 b6 b7) (zx b2) := ⟨.low (.atom 2) 8, low_zx _⟩
instance : Rf (at8 b0 b1 b2 b3 b4 b5 b6 b7) (zx b3) := ⟨.low (.atom 3) 8, low_zx _⟩
instance : Rf (at8 b0 b1 b2 b3 b4 b5 b6 b7) (zx b4) := ⟨.low (.atom 4) 8, low_zx _⟩
instance : Rf (at8 b0 b1 b2 b3 b4 b5 b6 b7) (zx b5) := ⟨.low (.atom 5) 8, low_zx _⟩
instance : Rf (at8 b0 b1 b2 b3 b4 b5 b6 b7) (zx b6) := ⟨.low (.atom 6) 8, low_zx _⟩
instance : Rf (at8 b0 b1 b2 b3 b4 b5 b6 b7) (zx b7) := ⟨.low (.atom 7) 8, low_zx _⟩
end
section
variable {ρ : Nat → BitVec 64}
instance (x : BitVec 64) (k : Nat) [r : Rf ρ x] : Rf ρ (zx (bt x k)) := ⟨.low (.shr r.e k) 8, by simp only [RE.sem, r.ok]; rfl⟩
instance (t : Int) : Rf ρ (maskF t) := ⟨.lit (maskF t).toNat, by simp [RE.sem]⟩
instance (x m z : BitVec 64) (k : Nat) [r : Rf ρ x] [s : Rf ρ m] [u : Rf ρ z] : Rf ρ (put x m k z) := ⟨.or (.and r.e (.not (.shl s.e k))) (.shl u.e k), by simp only [RE.sem, r.ok, s.ok, u.ok]; rfl⟩
instance (b0 b1 b2 b3 b4 b5 b6 b7 : BitVec 8) [r0 : Rf ρ (zx b0)] [r1 : Rf ρ (zx b1)] [r2 : Rf ρ (zx b2)] [r3 : Rf ρ (zx b3)] [r4 : Rf ρ (zx b4)] [r5 : Rf ρ (zx b5)] [r6 : Rf ρ (zx b6)] [r7 : Rf ρ (zx b7)] : Rf ρ (w8 b0 b1 b2 b3 b4 b5 b6 b7) :=
  have h : Rf ρ (256#64 * (256#64 * (256#64 * (256#64 * (256#64 * (256#64 * (256#64 * (0#64 + zx b7) + zx b6) + zx b5) + zx b4) + zx b3) + zx b2) + zx b1) + zx b0) := inferInstance
  ⟨h.e, h.ok⟩
end
def puts8 (b0 b1 b2 b3 b4 b5 b6 b7 : BitVec 8) : BitVec 64 :=
  put (put (put (put (put (put (put (put 0#64 (maskF 8) 0 (zx b0)) (maskF 8) 8 (zx b1)) (maskF 8) 16 (zx b2)) (maskF 8) 24 (zx b3)) (maskF 8) 32 (zx b4)) (maskF 8) 40 (zx b5)) (maskF 8) 48 (zx b6)) (maskF 8) 56 (zx b7)
theorem puts8_eq (b0 b1 b2 b3 b4 b5 b6 b7 : BitVec 8) : puts8 b0 b1 b2 b3 b4 b5 b6 b7 = w8 b0 b1 b2 b3 b4 b5 b6 b7 :=
  route (ρ := at8 b0 b1 b2 b3 b4 b5 b6 b7) (a := put (put (put (put (put (put (put (put 0#64 (maskF 8) 0 (zx b0)) (maskF 8) 8 (zx b1)) (maskF 8) 16 (zx b2)) (maskF 8) 24 (zx b3)) (maskF 8) 32 (zx b4)) (maskF 8) 40 (zx b5)) (maskF 8) 48 (zx b6)) (maskF 8) 56 (zx b7)) (by kernel_rfl)
def ann26 : Nat → List Nat := fun | 3 => [2, 3, 6, 7] | _ => []
end Go.L08

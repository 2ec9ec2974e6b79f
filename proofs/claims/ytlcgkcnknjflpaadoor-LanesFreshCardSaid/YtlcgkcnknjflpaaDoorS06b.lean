/-
  Part of the proof; what its functions and lemmas say stands in the text.
-/
import Derived.Test.YtlcgkcnknjflpaaDoorS06a
import Derived.Test.YtlcgkcnknjflpaaDoorRt
set_option linter.unusedSimpArgs false
set_option linter.unusedVariables false
/-!
Chapter 06: bytes.
-/
namespace Go.L06
open Go.Ev Go.Proofs Go.RowKit Go.Rt

/-- Byte k / 8. -/
def bt (x : BitVec 64) (k : Nat) : BitVec 8 := BitVec.setWidth 8 (x >>> k)
def bytesF (x y : BitVec 64) : List (BitVec 8) := [bt x 0, bt x 8, bt x 16, bt x 24, bt x 32, bt x 40, bt x 48, bt x 56, bt y 0, bt y 8, bt y 16, bt y 24, bt y 32, bt y 40, bt y 48, bt y 56]
noncomputable def bytesS : Ev.Spec := joined fun | [.agg [.u64 x, .u64 y]] => some (.a8 (bytesF x y)) | _ => none
def ann24 : Nat → List Nat := fun | 3 => [1, 2, 3, 5] | _ => []
def ann25 : Nat → List Nat := fun | 3 => [1, 2, 3, 4] | _ => []
theorem bytes25 : Snd 25 bytesS := by
  refine Sound.join (execFn_sound (ann := ann25) TableOK.nil mixed Tryd.func25 (by kernel_rfl) 50) fun ds d h => ?_
  split at h
  · cases h; kernel_rfl
  · cases h
theorem bt_mask (x : BitVec 64) (k : Nat) : BitVec.setWidth 8 (x >>> k &&& maskF 8) = bt x k := by
  have e : maskF 8 = 255#64 := by decide
  rw [e]
  apply BitVec.eq_of_getLsbD_eq
  intro j hj
  have h255 : (255#8).getLsbD j = true := by
    have : j = 0 ∨ j = 1 ∨ j = 2 ∨ j = 3 ∨ j = 4 ∨ j = 5 ∨ j = 6 ∨ j = 7 := by omega
    rcases this with rfl | rfl | rfl | rfl | rfl | rfl | rfl | rfl <;> decide
  simp [bt, h255]
theorem bytes24 : Snd 24 bytesS := by
  refine Sound.join (execFn_sound (ann := ann24) (TableOK.cons get41 TableOK.nil) mixed Tryd.func24 (by kernel_rfl) 50) fun ds d h => ?_
  split at h
  · rename_i x y
    cases h
    have nf : ex [(41, getS)] ann24 Tryd.f24 [vec x y] some = some (D.a8 [BitVec.setWidth 8 (x >>> 0 &&& maskF 8), BitVec.setWidth 8 (x >>> 8 &&& maskF 8), BitVec.setWidth 8 (x >>> 16 &&& maskF 8), BitVec.setWidth 8 (x >>> 24 &&& maskF 8),
      BitVec.setWidth 8 (x >>> 32 &&& maskF 8), BitVec.setWidth 8 (x >>> 40 &&& maskF 8), BitVec.setWidth 8 (x >>> 48 &&& maskF 8), BitVec.setWidth 8 (x >>> 56 &&& maskF 8),
      BitVec.setWidth 8 (y >>> 0 &&& maskF 8), BitVec.setWidth 8 (y >>> 8 &&& maskF 8), BitVec.setWidth 8 (y >>> 16 &&& maskF 8), BitVec.setWidth 8 (y >>> 24 &&& maskF 8),
      BitVec.setWidth 8 (y >>> 32 &&& maskF 8), BitVec.setWidth 8 (y >>> 40 &&& maskF 8), BitVec.setWidth 8 (y >>> 48 &&& maskF 8), BitVec.setWidth 8 (y >>> 56 &&& maskF 8)]) := by kernel_rfl
    refine nf.trans ?_
    simp only [bt_mask]
    rfl
  · cases h

/-- Eight bytes as a word. -/
def zx (b : BitVec 8) : BitVec 64 := BitVec.setWidth 64 b
def w8 (b0 b1 b2 b3 b4 b5 b6 b7 : BitVec 8) : BitVec 64 :=
  256#64 * (256#64 * (256#64 * (256#64 * (256#64 * (256#64 * (256#64 * (0#64 + zx b7) + zx b6) + zx b5) + zx b4) + zx b3) + zx b2) + zx b1) + zx b0
noncomputable def ofBytesS : Ev.Spec := joined fun
  | [.a8 [b0, b1, b2, b3, b4, b5, b6, b7, b8, b9, b10, b11, b12, b13, b14, b15]] => some (vec (w8 b0 b1 b2 b3 b4 b5 b6 b7) (w8 b8 b9 b10 b11 b12 b13 b14 b15))
  | _ => none
def ann27 : Nat → List Nat := fun | 3 => [1, 2, 3, 4] | _ => []
theorem ofBytes27 : Snd 27 ofBytesS := by
  refine Sound.join (execFn_sound (ann := ann27) TableOK.nil mixed Tryd.func27 (by kernel_rfl) 50) fun ds d h => ?_
  split at h
  · cases h; kernel_rfl
  · cases h

/-! lanes.set at two ways -/
theorem Sound.two {P : Program} {G : List (Nat × SV)} {f : FuncId} {s : Ev.Spec} {F : List D → Option (Bool × D × D)} (hs : Sound P G f s) (h : ∀ ds b d e, F ds = some (b, d, e) → s ds some = some (if b = true then d else e)) :
    Sound P G f (fun ds K => match F ds with | some (b, d, e) => if b = true then K d else K e | none => none) := by
  intro ds K r hK
  simp only [] at hK
  split at hK
  · rename_i b d e hF
    obtain ⟨d', h1, h2⟩ := hs ds some _ (h ds b d e hF)
    cases h1
    split at hK
    · rename_i hb; rw [if_pos hb] at h2; exact ⟨d, hK, h2⟩
    · rename_i hb; rw [if_neg hb] at h2; exact ⟨e, hK, h2⟩
  · cases hK
noncomputable def setC : Ev.Spec := fun ds K => match (match ds with
    | [.agg [.u64 x, .u64 y], .i .i64 t, .i .i64 i, .u64 z] => some (decide (64 ≤ IntKind.i64.wrap (i * t)), vec x (put y (maskF t) (shW (IntKind.i64.wrap (IntKind.i64.wrap (i * t) - 64))) z), vec (put x (maskF t) (shW (IntKind.i64.wrap (i * t))) z) y)
    | _ => none : Option (Bool × D × D)) with
  | some (b, d, e) => if b = true then K d else K e
  | none => none
theorem setC43 : Snd 43 setC := by
  refine Sound.two (F := fun ds => match ds with
    | [.agg [.u64 x, .u64 y], .i .i64 t, .i .i64 i, .u64 z] => some (decide (64 ≤ IntKind.i64.wrap (i * t)), vec x (put y (maskF t) (shW (IntKind.i64.wrap (IntKind.i64.wrap (i * t) - 64))) z), vec (put x (maskF t) (shW (IntKind.i64.wrap (i * t))) z) y)
    | _ => none) (execFn_sound (ann := fun _ => []) (TableOK.cons mask48 TableOK.nil) mixed Tryd.func43 (by kernel_rfl) 50) fun ds b d e h => ?_
  split at h
  · rename_i x y t i z
    cases h
    have nf : ex [(48, maskS)] (fun _ => []) Tryd.f43 [vec x y, .i .i64 t, .i .i64 i, .u64 z] some = if decide (64 ≤ IntKind.i64.wrap (i * t)) = true then
        some (vec x (put y (maskF t) (shW (IntKind.i64.wrap (IntKind.i64.wrap (i * t) - 64))) z))
      else some (vec (put x (maskF t) (shW (IntKind.i64.wrap (i * t))) z) y) := by kernel_rfl
    refine nf.trans ?_
    split
    · rfl
    · rfl
  · cases h

def at8 (b0 b1 b2 b3 b4 b5 b6 b7 : BitVec 8) : Nat → BitVec 64
  | 0 => zx b0 | 1 => zx b1 | 2 => zx b2 | 3 => zx b3 | 4 => zx b4 | 5 => zx b5 | 6 => zx b6 | 7 => zx b7
  | _ => 0#64
theorem low_zx (b : BitVec 8) : BitVec.setWidth 64 (BitVec.setWidth 8 (zx b)) = zx b := by
  apply BitVec.eq_of_toNat_eq
  have := b.isLt
  simp [zx]
section
variable (b0 b1 b2 b3 b4 b5 b6 b7 : BitVec 8)
instance : Rf (at8 b0 b1 b2 b3 b4 b5 b6 b7) (zx b0) := ⟨.low (.atom 0) 8, low_zx _⟩
instance : Rf (at8 b0 b1 b2 b3 b4 b5 b6 b7) (zx b1) := ⟨.low (.atom 1) 8, low_zx _⟩
instance : Rf (at8 b0 b1 b2 b3 b4 b5 b6 b7) (zx b2) := ⟨.low (.atom 2) 8, low_zx _⟩
instance : Rf (at8 b0 b1 b2 b3 b4 b5 b6 b7) (zx b3) := ⟨.low (.atom 3) 8, low_zx _⟩
instance : Rf (at8 b0 b1 b2 b3 b4 b5 b6 b7) (zx b4) := ⟨.low (.atom 4) 8, low_zx _⟩
instance : Rf (at8 b0 b1 b2 b3 b4 b5 b6 b7) (zx b5) := ⟨.low (.atom 5) 8, low_zx _⟩
instance : Rf (at8 b0 b1 b2 b3 b4 b5 b6 b7) (zx b6) := ⟨.low (.atom 6) 8, low_zx _⟩
instance : Rf (at8 b0 b1 b2 b3 b4 b5 b6 b7) (zx b7) := ⟨.low (.atom 7) 8, low_zx _⟩
end
section
variable {ρ : Nat → BitVec 64}
instance (x : BitVec 64) (k : Nat) [r : Rf ρ x] : Rf ρ (zx (bt x k)) := ⟨.low (.shr r.e k) 8, by simp only [RE.sem, r.ok]; rfl⟩
instance (t : Int) : Rf ρ (maskF t) := ⟨.lit (maskF t).toNat, by simp [RE.sem]⟩
instance (x m z : BitVec 64) (k : Nat) [r : Rf ρ x] [s : Rf ρ m] [u : Rf ρ z] : Rf ρ (put x m k z) := ⟨.or (.and r.e (.not (.shl s.e k))) (.shl u.e k), by simp only [RE.sem, r.ok, s.ok, u.ok]; rfl⟩
instance (b0 b1 b2 b3 b4 b5 b6 b7 : BitVec 8) [r0 : Rf ρ (zx b0)] [r1 : Rf ρ (zx b1)] [r2 : Rf ρ (zx b2)] [r3 : Rf ρ (zx b3)] [r4 : Rf ρ (zx b4)] [r5 : Rf ρ (zx b5)] [r6 : Rf ρ (zx b6)] [r7 : Rf ρ (zx b7)] : Rf ρ (w8 b0 b1 b2 b3 b4 b5 b6 b7) :=
  have h : Rf ρ (256#64 * (256#64 * (256#64 * (256#64 * (256#64 * (256#64 * (256#64 * (0#64 + zx b7) + zx b6) + zx b5) + zx b4) + zx b3) + zx b2) + zx b1) + zx b0) := inferInstance
  ⟨h.e, h.ok⟩
end
def puts8 (b0 b1 b2 b3 b4 b5 b6 b7 : BitVec 8) : BitVec 64 :=
  put (put (put (put (put (put (put (put 0#64 (maskF 8) 0 (zx b0)) (maskF 8) 8 (zx b1)) (maskF 8) 16 (zx b2)) (maskF 8) 24 (zx b3)) (maskF 8) 32 (zx b4)) (maskF 8) 40 (zx b5)) (maskF 8) 48 (zx b6)) (maskF 8) 56 (zx b7)
theorem puts8_eq (b0 b1 b2 b3 b4 b5 b6 b7 : BitVec 8) : puts8 b0 b1 b2 b3 b4 b5 b6 b7 = w8 b0 b1 b2 b3 b4 b5 b6 b7 :=
  route (ρ := at8 b0 b1 b2 b3 b4 b5 b6 b7) (a := put (put (put (put (put (put (put (put 0#64 (maskF 8) 0 (zx b0)) (maskF 8) 8 (zx b1)) (maskF 8) 16 (zx b2)) (maskF 8) 24 (zx b3)) (maskF 8) 32 (zx b4)) (maskF 8) 40 (zx b5)) (maskF 8) 48 (zx b6)) (maskF 8) 56 (zx b7)) (by kernel_rfl)
def ann26 : Nat → List Nat := fun | 3 => [2, 3, 6, 7] | _ => []
theorem ofBytes26 : Snd 26 ofBytesS := by
  refine Sound.join (execFn_sound (ann := ann26) (TableOK.cons setC43 TableOK.nil) mixed Tryd.func26 (by kernel_rfl) 50) fun ds d h => ?_
  split at h
  · rename_i b0 b1 b2 b3 b4 b5 b6 b7 b8 b9 b10 b11 b12 b13 b14 b15
    cases h
    have nf : ex [(43, setC)] ann26 Tryd.f26 [.a8 [b0, b1, b2, b3, b4, b5, b6, b7, b8, b9, b10, b11, b12, b13, b14, b15]] some = some (vec (puts8 b0 b1 b2 b3 b4 b5 b6 b7) (puts8 b8 b9 b10 b11 b12 b13 b14 b15)) := by kernel_rfl
    refine nf.trans ?_
    rw [puts8_eq, puts8_eq]
  · cases h
end Go.L06

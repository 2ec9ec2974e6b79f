/-
  Part of the proof; what its functions and lemmas say stands in the text.
-/
import Derived.Test.YtnbafdmlfpmfkaaGreatDoorWhB
import Derived.Test.YtnbafdmlfpmfkaaGreatDoorEvE
import Derived.Test.YtnbafdmlfpmfkaaGreatDoorR23
set_option linter.unusedSimpArgs false
set_option linter.unusedVariables false
/-!
Chapter 06: what the functions answer.
-/
namespace Go.L23
open Go.Ev Go.Proofs Go.RowKit
open Go.Wh

/-! masks -/
theorem mask48 : Snd 183 maskS := by
  refine Sound.join (execFn_sound (ann := fun _ => []) TableOK.nil mixed Tryz.func183 (by kernel_rfl) 50) fun ds d h => ?_
  split at h
  · rename_i t
    cases h
    kernel_rfl
  · cases h
/-! widths -/
theorem width42 : Snd 84 widthS := t_Width
/-! what fits -/
noncomputable def oneS : Ev.Spec := joined fun
  | [.u8 31#8, .i .i64 t, .u64 x] => some (.tup [.u64 (ifF (mayF t [x]) (~~~x &&& maskF t)), .i .i64 (errF (mayF t [x]))])
  | _ => none
theorem fits44 : Snd 85 fitsS := t_Fits
theorem one47 : Snd 132 oneS := by
  refine Sound.join (execFn_sound (ann := fun _ => []) (TableOK.cons t_may (TableOK.cons t_mask TableOK.nil)) mixed Tryz.func132 (by kernel_rfl) 50) fun ds d h => ?_
  split at h
  · rename_i t x
    cases h
    have nf : ex [(75, mayS), (77, maskOS)] (fun _ => []) Tryz.f132 [.u8 31#8, .i .i64 t, .u64 x] some =
      if (!mayF t [x]) = true then some (D.tup [D.u64 0#64, D.i IntKind.i64 2])
      else (if okW t = true then some (D.tup [D.u64 (~~~x &&& maskF t), D.i IntKind.i64 0]) else none) := by kernel_rfl
    refine nf.trans ?_
    cases hm : mayF t [x]
    · rfl
    · have : okW t = true := by
        unfold mayF at hm
        rw [Bool.and_eq_true] at hm
        exact hm.1
      rw [this]; rfl
  · cases h
def isF (t : Int) (x : BitVec 64) : Bool := okW t && decide (x ≤ maskF t)
noncomputable def isS : Ev.Spec := joined fun | [.i .i64 t, .u64 x] => some (.bool (isF t x)) | _ => none
theorem is40 : Snd 80 isS := by
  refine Sound.join (execFn_sound (ann := fun _ => []) (TableOK.cons one47 TableOK.nil) mixed Tryz.func80 (by kernel_rfl) 50) fun ds d h => ?_
  split at h
  · rename_i t x
    cases h
    have nf : ex [(132, oneS)] (fun _ => []) Tryz.f80 [.i .i64 t, .u64 x] some = some (.bool (errF (mayF t [x]) == 0)) := by kernel_rfl
    refine nf.trans ?_
    have : isF t x = mayF t [x] := by simp [isF, mayF]
    rw [this]
    cases mayF t [x] <;> rfl
  · cases h

/-! lanes -/
def shW (n : Int) : Nat := (BitVec.ofInt 64 n).toNat
def getF (x y : BitVec 64) (t i : Int) : BitVec 64 := if 64 ≤ IntKind.i64.wrap (i * t) then y >>> shW (IntKind.i64.wrap (IntKind.i64.wrap (i * t) - 64)) &&& maskF t else x >>> shW (IntKind.i64.wrap (i * t)) &&& maskF t
noncomputable def getS : Ev.Spec := joined fun | [.agg [.u64 x, .u64 y], .i .i64 t, .i .i64 i] => some (.u64 (getF x y t i)) | _ => none
theorem get41 : Snd 99 getS := by
  refine Sound.join (execFn_sound (ann := fun _ => []) (TableOK.cons mask48 TableOK.nil) mixed Tryz.func99 (by kernel_rfl) 50) fun ds d h => ?_
  split at h
  · rename_i x y t i
    cases h
    have nf : ex [(183, maskS)] (fun _ => []) Tryz.f99 [vec x y, .i .i64 t, .i .i64 i] some = if decide (64 ≤ IntKind.i64.wrap (i * t)) = true then
        some (D.u64 (y >>> shW (IntKind.i64.wrap (IntKind.i64.wrap (i * t) - 64)) &&& maskF t))
      else some (D.u64 (x >>> shW (IntKind.i64.wrap (i * t)) &&& maskF t)) := by kernel_rfl
    refine nf.trans ?_
    unfold getF
    simp only [decide_eq_true_eq]
    split <;> rfl
  · cases h
def put (x m : BitVec 64) (k : Nat) (z : BitVec 64) : BitVec 64 := x &&& ~~~ (m <<< k) ||| z <<< k
def setF (x y : BitVec 64) (t i : Int) (z : BitVec 64) : BitVec 64 × BitVec 64 :=
  if 64 ≤ IntKind.i64.wrap (i * t) then (x, put y (maskF t) (shW (IntKind.i64.wrap (IntKind.i64.wrap (i * t) - 64))) z) else (put x (maskF t) (shW (IntKind.i64.wrap (i * t))) z, y)
noncomputable def setS : Ev.Spec := joined fun | [.agg [.u64 x, .u64 y], .i .i64 t, .i .i64 i, .u64 z] => some (vec (setF x y t i z).1 (setF x y t i z).2) | _ => none
theorem set43 : Snd 81 setS := by
  refine Sound.join (execFn_sound (ann := fun _ => []) (TableOK.cons mask48 TableOK.nil) mixed Tryz.func81 (by kernel_rfl) 50) fun ds d h => ?_
  split at h
  · rename_i x y t i z
    cases h
    have nf : ex [(183, maskS)] (fun _ => []) Tryz.f81 [vec x y, .i .i64 t, .i .i64 i, .u64 z] some = if decide (64 ≤ IntKind.i64.wrap (i * t)) = true then
        some (vec x (put y (maskF t) (shW (IntKind.i64.wrap (IntKind.i64.wrap (i * t) - 64))) z))
      else some (vec (put x (maskF t) (shW (IntKind.i64.wrap (i * t))) z) y) := by kernel_rfl
    refine nf.trans ?_
    unfold setF
    simp only [decide_eq_true_eq]
    split <;> rfl
  · cases h
end Go.L23
/-!
Chapter 06: bytes.
-/
namespace Go.L23
open Go.Ev Go.Proofs Go.RowKit Go.Rt
open Go.Wh

/-- Byte k / 8. -/
def bt (x : BitVec 64) (k : Nat) : BitVec 8 := BitVec.setWidth 8 (x >>> k)
def bytesF (x y : BitVec 64) : List (BitVec 8) := [bt x 0, bt x 8, bt x 16, bt x 24, bt x 32, bt x 40, bt x 48, bt x 56, bt y 0, bt y 8, bt y 16, bt y 24, bt y 32, bt y 40, bt y 48, bt y 56]
noncomputable def bytesS : Ev.Spec := joined fun | [.agg [.u64 x, .u64 y]] => some (.a8 (bytesF x y)) | _ => none
def ann24 : Nat → List Nat := fun | 3 => [1, 2, 3, 5] | _ => []
def ann25 : Nat → List Nat := fun | 3 => [1, 2, 3, 4] | _ => []
theorem bytes25 : Snd 184 bytesS := by
  refine Sound.join (execFn_sound (ann := ann25) TableOK.nil mixed Tryz.func184 (by kernel_rfl) 50) fun ds d h => ?_
  split at h
  · cases h; kernel_rfl
  · cases h
theorem bt_mask (x : BitVec 64) (k : Nat) : BitVec.setWidth 8 (x >>> k &&& maskF 8) = bt x k := by
  have e : maskF 8 = 255#64 := by decide
  rw [e]
  apply BitVec.eq_of_getLsbD_eq
  intro j hj
  have h255 : (255#8).getLsbD j = true := by
    have : j = 0 ∨ j = 1 ∨ j = 2 ∨ j = 3 ∨ j = 4 ∨ j = 5 ∨ j = 6 ∨ j = 7 := by omega
    rcases this with rfl | rfl | rfl | rfl | rfl | rfl | rfl | rfl <;> decide
  simp [bt, h255]
theorem bytes24 : Snd 203 bytesS := by
  refine Sound.join (execFn_sound (ann := ann24) (TableOK.cons get41 TableOK.nil) mixed Tryz.func203 (by kernel_rfl) 50) fun ds d h => ?_
  split at h
  · rename_i x y
    cases h
    have nf : ex [(99, getS)] ann24 Tryz.f203 [vec x y] some = some (D.a8 [BitVec.setWidth 8 (x >>> 0 &&& maskF 8), BitVec.setWidth 8 (x >>> 8 &&& maskF 8), BitVec.setWidth 8 (x >>> 16 &&& maskF 8), BitVec.setWidth 8 (x >>> 24 &&& maskF 8),
      BitVec.setWidth 8 (x >>> 32 &&& maskF 8), BitVec.setWidth 8 (x >>> 40 &&& maskF 8), BitVec.setWidth 8 (x >>> 48 &&& maskF 8), BitVec.setWidth 8 (x >>> 56 &&& maskF 8),
      BitVec.setWidth 8 (y >>> 0 &&& maskF 8), BitVec.setWidth 8 (y >>> 8 &&& maskF 8), BitVec.setWidth 8 (y >>> 16 &&& maskF 8), BitVec.setWidth 8 (y >>> 24 &&& maskF 8),
      BitVec.setWidth 8 (y >>> 32 &&& maskF 8), BitVec.setWidth 8 (y >>> 40 &&& maskF 8), BitVec.setWidth 8 (y >>> 48 &&& maskF 8), BitVec.setWidth 8 (y >>> 56 &&& maskF 8)]) := by kernel_rfl
    refine nf.trans ?_
    simp only [bt_mask]
    rfl
  · cases h

/-- Eight bytes as a word. -/
def zx (b : BitVec 8) : BitVec 64 := BitVec.setWidth 64 b
def w8 (b0 b1 b2 b3 b4 b5 b6 b7 : BitVec 8) : BitVec 64 :=
  256#64 * (256#64 * (256#64 * (256#64 * (256#64 * (256#64 * (256#64 * (0#64 + zx b7) + zx b6) + zx b5) + zx b4) + zx b3) + zx b2) + zx b1) + zx b0
noncomputable def ofBytesS : Ev.Spec := joined fun
  | [.a8 [b0, b1, b2, b3, b4, b5, b6, b7, b8, b9, b10, b11, b12, b13, b14, b15]] => some (vec (w8 b0 b1 b2 b3 b4 b5 b6 b7) (w8 b8 b9 b10 b11 b12 b13 b14 b15))
  | _ => none
def ann27 : Nat → List Nat := fun | 3 => [1, 2, 3, 4] | _ => []
theorem ofBytes27 : Snd 134 ofBytesS := by
  refine Sound.join (execFn_sound (ann := ann27) TableOK.nil mixed Tryz.func134 (by kernel_rfl) 50) fun ds d h => ?_
  split at h
  · cases h; kernel_rfl
  · cases h

/-! lanes.set at two ways -/
theorem Sound.two {P : Program} {G : List (Nat × SV)} {f : FuncId} {s : Ev.Spec} {F : List D → Option (Bool × D × D)} (hs : Sound P G f s) (h : ∀ ds b d e, F ds = some (b, d, e) → s ds some = some (if b = true then d else e)) :
    Sound P G f (fun ds K => match F ds with | some (b, d, e) => if b = true then K d else K e | none => none) := by
  intro ds K r hK
  simp only [] at hK
  split at hK
  · rename_i b d e hF
    obtain ⟨d', h1, h2⟩ := hs ds some _ (h ds b d e hF)
    cases h1
    split at hK
    · rename_i hb; rw [if_pos hb] at h2; exact ⟨d, hK, h2⟩
    · rename_i hb; rw [if_neg hb] at h2; exact ⟨e, hK, h2⟩
  · cases hK
noncomputable def setC : Ev.Spec := fun ds K => match (match ds with
    | [.agg [.u64 x, .u64 y], .i .i64 t, .i .i64 i, .u64 z] => some (decide (64 ≤ IntKind.i64.wrap (i * t)), vec x (put y (maskF t) (shW (IntKind.i64.wrap (IntKind.i64.wrap (i * t) - 64))) z), vec (put x (maskF t) (shW (IntKind.i64.wrap (i * t))) z) y)
    | _ => none : Option (Bool × D × D)) with
  | some (b, d, e) => if b = true then K d else K e
  | none => none
theorem setC43 : Snd 81 setC := by
  refine Sound.two (F := fun ds => match ds with
    | [.agg [.u64 x, .u64 y], .i .i64 t, .i .i64 i, .u64 z] => some (decide (64 ≤ IntKind.i64.wrap (i * t)), vec x (put y (maskF t) (shW (IntKind.i64.wrap (IntKind.i64.wrap (i * t) - 64))) z), vec (put x (maskF t) (shW (IntKind.i64.wrap (i * t))) z) y)
    | _ => none) (execFn_sound (ann := fun _ => []) (TableOK.cons mask48 TableOK.nil) mixed Tryz.func81 (by kernel_rfl) 50) fun ds b d e h => ?_
  split at h
  · rename_i x y t i z
    cases h
    have nf : ex [(183, maskS)] (fun _ => []) Tryz.f81 [vec x y, .i .i64 t, .i .i64 i, .u64 z] some = if decide (64 ≤ IntKind.i64.wrap (i * t)) = true then
        some (vec x (put y (maskF t) (shW (IntKind.i64.wrap (IntKind.i64.wrap (i * t) - 64))) z))
      else some (vec (put x (maskF t) (shW (IntKind.i64.wrap (i * t))) z) y) := by kernel_rfl
    refine nf.trans ?_
    split
    · rfl
    · rfl
  · cases h

def at8 (b0 b1 b2 b3 b4 b5 b6 b7 : BitVec 8) : Nat → BitVec 64
  | 0 => zx b0 | 1 => zx b1 | 2 => zx b2 | 3 => zx b3 | 4 => zx b4 | 5 => zx b5 | 6 => zx b6 | 7 => zx b7
  | _ => 0#64
theorem low_zx (b : BitVec 8) : BitVec.setWidth 64 (BitVec.setWidth 8 (zx b)) = zx b := by
  apply BitVec.eq_of_toNat_eq
  have := b.isLt
  simp [zx]
section
variable (b0 b1 b2 b3 b4 b5 b6 b7 : BitVec 8)
instance : Rf (at8 b0 b1 b2 b3 b4 b5 b6 b7) (zx b0) := ⟨.low (.atom 0) 8, low_zx _⟩
instance : Rf (at8 b0 b1 b2 b3 b4 b5 b6 b7) (zx b1) := ⟨.low (.atom 1) 8, low_zx _⟩
instance : Rf (at8 b0 b1 b2 b3 b4 b5 b6 b7) (zx b2) := ⟨.low (.atom 2) 8, low_zx _⟩
instance : Rf (at8 b0 b1 b2 b3 b4 b5 b6 b7) (zx b3) := ⟨.low (.atom 3) 8, low_zx _⟩
instance : Rf (at8 b0 b1 b2 b3 b4 b5 b6 b7) (zx b4) := ⟨.low (.atom 4) 8, low_zx _⟩
instance : Rf (at8 b0 b1 b2 b3 b4 b5 b6 b7) (zx b5) := ⟨.low (.atom 5) 8, low_zx _⟩
instance : Rf (at8 b0 b1 b2 b3 b4 b5 b6 b7) (zx b6) := ⟨.low (.atom 6) 8, low_zx _⟩
instance : Rf (at8 b0 b1 b2 b3 b4 b5 b6 b7) (zx b7) := ⟨.low (.atom 7) 8, low_zx _⟩
end
section
variable {ρ : Nat → BitVec 64}
instance (x : BitVec 64) (k : Nat) [r : Rf ρ x] : Rf ρ (zx (bt x k)) := ⟨.low (.shr r.e k) 8, by simp only [RE.sem, r.ok]; rfl⟩
instance (t : Int) : Rf ρ (maskF t) := ⟨.lit (maskF t).toNat, by simp [RE.sem]⟩
instance (x m z : BitVec 64) (k : Nat) [r : Rf ρ x] [s : Rf ρ m] [u : Rf ρ z] : Rf ρ (put x m k z) := ⟨.or (.and r.e (.not (.shl s.e k))) (.shl u.e k), by simp only [RE.sem, r.ok, s.ok, u.ok]; rfl⟩
instance (b0 b1 b2 b3 b4 b5 b6 b7 : BitVec 8) [r0 : Rf ρ (zx b0)] [r1 : Rf ρ (zx b1)] [r2 : Rf ρ (zx b2)] [r3 : Rf ρ (zx b3)] [r4 : Rf ρ (zx b4)] [r5 : Rf ρ (zx b5)] [r6 : Rf ρ (zx b6)] [r7 : Rf ρ (zx b7)] : Rf ρ (w8 b0 b1 b2 b3 b4 b5 b6 b7) :=
  have h : Rf ρ (256#64 * (256#64 * (256#64 * (256#64 * (256#64 * (256#64 * (256#64 * (0#64 + zx b7) + zx b6) + zx b5) + zx b4) + zx b3) + zx b2) + zx b1) + zx b0) := inferInstance
  ⟨h.e, h.ok⟩
end
def puts8 (b0 b1 b2 b3 b4 b5 b6 b7 : BitVec 8) : BitVec 64 :=
  put (put (put (put (put (put (put (put 0#64 (maskF 8) 0 (zx b0)) (maskF 8) 8 (zx b1)) (maskF 8) 16 (zx b2)) (maskF 8) 24 (zx b3)) (maskF 8) 32 (zx b4)) (maskF 8) 40 (zx b5)) (maskF 8) 48 (zx b6)) (maskF 8) 56 (zx b7)
theorem puts8_eq (b0 b1 b2 b3 b4 b5 b6 b7 : BitVec 8) : puts8 b0 b1 b2 b3 b4 b5 b6 b7 = w8 b0 b1 b2 b3 b4 b5 b6 b7 :=
  route (ρ := at8 b0 b1 b2 b3 b4 b5 b6 b7) (a := put (put (put (put (put (put (put (put 0#64 (maskF 8) 0 (zx b0)) (maskF 8) 8 (zx b1)) (maskF 8) 16 (zx b2)) (maskF 8) 24 (zx b3)) (maskF 8) 32 (zx b4)) (maskF 8) 40 (zx b5)) (maskF 8) 48 (zx b6)) (maskF 8) 56 (zx b7)) (by kernel_rfl)
def ann26 : Nat → List Nat := fun | 3 => [2, 3, 6, 7] | _ => []
theorem ofBytes26 : Snd 109 ofBytesS := by
  refine Sound.join (execFn_sound (ann := ann26) (TableOK.cons setC43 TableOK.nil) mixed Tryz.func109 (by kernel_rfl) 50) fun ds d h => ?_
  split at h
  · rename_i b0 b1 b2 b3 b4 b5 b6 b7 b8 b9 b10 b11 b12 b13 b14 b15
    cases h
    have nf : ex [(81, setC)] ann26 Tryz.f109 [.a8 [b0, b1, b2, b3, b4, b5, b6, b7, b8, b9, b10, b11, b12, b13, b14, b15]] some = some (vec (puts8 b0 b1 b2 b3 b4 b5 b6 b7) (puts8 b8 b9 b10 b11 b12 b13 b14 b15)) := by kernel_rfl
    refine nf.trans ?_
    rw [puts8_eq, puts8_eq]
  · cases h
end Go.L23
/-!
Chapter 06: lanes and vectors.
-/
namespace Go.L23
open Go.Ev Go.Proofs Go.RowKit Go.Rt
open Go.Wh

/-- Bytes as a number, the first one lowest. -/
def asm : List (BitVec 8) → BitVec 64
  | [] => 0#64
  | b :: l => 256#64 * asm l + zx b

class RfL (ρ : Nat → BitVec 64) (l : List (BitVec 64)) where
  e : List RE
  ok : e.map (RE.sem ρ) = l
def chkL : List RE → List RE → Bool
  | [], [] => true
  | a :: l, b :: m => chk a b && chkL l m
  | _, _ => false
theorem chkL_ok (ρ : Nat → BitVec 64) : ∀ {l m : List RE}, chkL l m = true → l.map (RE.sem ρ) = m.map (RE.sem ρ)
  | [], [], _ => rfl
  | a :: l, b :: m, h => by
    simp only [chkL, Bool.and_eq_true] at h
    simp only [List.map_cons, chk_ok h.1 ρ, chkL_ok ρ h.2]
  | [], _ :: _, h => by cases h
  | _ :: _, [], h => by cases h
theorem routeL {ρ : Nat → BitVec 64} {a b : List (BitVec 64)} [ra : RfL ρ a] [rb : RfL ρ b] (h : chkL ra.e rb.e = true) : a = b := by
  rw [← ra.ok, ← rb.ok]; exact chkL_ok ρ h
section
variable {ρ : Nat → BitVec 64}
instance : RfL ρ [] := ⟨[], rfl⟩
instance (a : BitVec 64) (l : List (BitVec 64)) [r : Rf ρ a] [s : RfL ρ l] : RfL ρ (a :: l) := ⟨r.e :: s.e, by simp only [List.map_cons, r.ok, s.ok]⟩
instance : Rf ρ (asm []) := ⟨.lit 0, rfl⟩
instance (b : BitVec 8) (l : List (BitVec 8)) [r : Rf ρ (zx b)] [s : Rf ρ (asm l)] : Rf ρ (asm (b :: l)) := ⟨.add (.shl s.e 8) r.e, by simp only [RE.sem, r.ok, s.ok, asm, mul256]⟩
instance (x y : BitVec 64) (t i : Int) [r : Rf ρ x] [s : Rf ρ y] : Rf ρ (getF x y t i) :=
  ⟨if 64 ≤ IntKind.i64.wrap (i * t) then .and (.shr s.e (shW (IntKind.i64.wrap (IntKind.i64.wrap (i * t) - 64)))) (.lit (maskF t).toNat) else .and (.shr r.e (shW (IntKind.i64.wrap (i * t)))) (.lit (maskF t).toNat), by
    unfold getF
    split <;> simp [RE.sem, r.ok, s.ok]⟩
end

/-- All lanes. -/
def listF (x y : BitVec 64) (w : Int) : List (BitVec 64) := (List.range (128 / w).toNat).map (fun (i : Nat) => getF x y w i)
noncomputable def listS : Ev.Spec := guarded fun | [.agg [.u64 x, .u64 y], .i .i64 w] => some (okW w, .sl64 (listF x y w)) | _ => none
def ann35 : Nat → List Nat := fun | 8 => [1, 5, 6, 7, 8, 9] | 4 => [1, 5, 6, 7] | _ => []
theorem list8 (x y : BitVec 64) : ex [(184, bytesS)] ann35 Tryz.f82 [vec x y, .i .i64 8] some = some (.sl64 (listF x y 8)) := by
  have nf : ex [(184, bytesS)] ann35 Tryz.f82 [vec x y, .i .i64 8] some = some (.sl64 [asm [bt x 0], asm [bt x 8], asm [bt x 16], asm [bt x 24], asm [bt x 32], asm [bt x 40], asm [bt x 48], asm [bt x 56], asm [bt y 0], asm [bt y 8], asm [bt y 16], asm [bt y 24], asm [bt y 32], asm [bt y 40], asm [bt y 48], asm [bt y 56]]) := by kernel_rfl
  have e : [asm [bt x 0], asm [bt x 8], asm [bt x 16], asm [bt x 24], asm [bt x 32], asm [bt x 40], asm [bt x 48], asm [bt x 56], asm [bt y 0], asm [bt y 8], asm [bt y 16], asm [bt y 24], asm [bt y 32], asm [bt y 40], asm [bt y 48], asm [bt y 56]] = [getF x y 8 0, getF x y 8 1, getF x y 8 2, getF x y 8 3, getF x y 8 4, getF x y 8 5, getF x y 8 6, getF x y 8 7, getF x y 8 8, getF x y 8 9, getF x y 8 10, getF x y 8 11, getF x y 8 12, getF x y 8 13, getF x y 8 14, getF x y 8 15] := routeL (ρ := at3 x y 0#64) (by kernel_rfl)
  rw [nf, e]
  rfl
theorem list16 (x y : BitVec 64) : ex [(184, bytesS)] ann35 Tryz.f82 [vec x y, .i .i64 16] some = some (.sl64 (listF x y 16)) := by
  have nf : ex [(184, bytesS)] ann35 Tryz.f82 [vec x y, .i .i64 16] some = some (.sl64 [asm [bt x 0, bt x 8], asm [bt x 16, bt x 24], asm [bt x 32, bt x 40], asm [bt x 48, bt x 56], asm [bt y 0, bt y 8], asm [bt y 16, bt y 24], asm [bt y 32, bt y 40], asm [bt y 48, bt y 56]]) := by kernel_rfl
  have e : [asm [bt x 0, bt x 8], asm [bt x 16, bt x 24], asm [bt x 32, bt x 40], asm [bt x 48, bt x 56], asm [bt y 0, bt y 8], asm [bt y 16, bt y 24], asm [bt y 32, bt y 40], asm [bt y 48, bt y 56]] = [getF x y 16 0, getF x y 16 1, getF x y 16 2, getF x y 16 3, getF x y 16 4, getF x y 16 5, getF x y 16 6, getF x y 16 7] := routeL (ρ := at3 x y 0#64) (by kernel_rfl)
  rw [nf, e]
  rfl
theorem list32 (x y : BitVec 64) : ex [(184, bytesS)] ann35 Tryz.f82 [vec x y, .i .i64 32] some = some (.sl64 (listF x y 32)) := by
  have nf : ex [(184, bytesS)] ann35 Tryz.f82 [vec x y, .i .i64 32] some = some (.sl64 [asm [bt x 0, bt x 8, bt x 16, bt x 24], asm [bt x 32, bt x 40, bt x 48, bt x 56], asm [bt y 0, bt y 8, bt y 16, bt y 24], asm [bt y 32, bt y 40, bt y 48, bt y 56]]) := by kernel_rfl
  have e : [asm [bt x 0, bt x 8, bt x 16, bt x 24], asm [bt x 32, bt x 40, bt x 48, bt x 56], asm [bt y 0, bt y 8, bt y 16, bt y 24], asm [bt y 32, bt y 40, bt y 48, bt y 56]] = [getF x y 32 0, getF x y 32 1, getF x y 32 2, getF x y 32 3] := routeL (ρ := at3 x y 0#64) (by kernel_rfl)
  rw [nf, e]
  rfl
theorem list64 (x y : BitVec 64) : ex [(184, bytesS)] ann35 Tryz.f82 [vec x y, .i .i64 64] some = some (.sl64 (listF x y 64)) := by
  have nf : ex [(184, bytesS)] ann35 Tryz.f82 [vec x y, .i .i64 64] some = some (.sl64 [asm [bt x 0, bt x 8, bt x 16, bt x 24, bt x 32, bt x 40, bt x 48, bt x 56], asm [bt y 0, bt y 8, bt y 16, bt y 24, bt y 32, bt y 40, bt y 48, bt y 56]]) := by kernel_rfl
  have e : [asm [bt x 0, bt x 8, bt x 16, bt x 24, bt x 32, bt x 40, bt x 48, bt x 56], asm [bt y 0, bt y 8, bt y 16, bt y 24, bt y 32, bt y 40, bt y 48, bt y 56]] = [getF x y 64 0, getF x y 64 1] := routeL (ρ := at3 x y 0#64) (by kernel_rfl)
  rw [nf, e]
  rfl
theorem list35 : Snd 82 listS := by
  refine Sound.guard (execFn_sound (ann := ann35) (TableOK.cons bytes25 TableOK.nil) mixed Tryz.func82 (by kernel_rfl) 50) fun ds d h => ?_
  split at h
  · rename_i x y w
    simp only [Option.some.injEq, Prod.mk.injEq] at h
    obtain ⟨h, rfl⟩ := h
    rcases okW_cases h with rfl | rfl | rfl | rfl
    · exact list8 x y
    · exact list16 x y
    · exact list32 x y
    · exact list64 x y
  · cases h

/-- The vector of lanes. -/
def vecB (w : Nat) (l : List (BitVec 64)) : List (BitVec 8) := l.flatMap (fun a => (List.range (w / 8)).map (fun k => bt a (8 * k)))
def vecF (w : Int) (l : List (BitVec 64)) : BitVec 64 × BitVec 64 := (asm ((vecB w.toNat l).take 8), asm ((vecB w.toNat l).drop 8))
noncomputable def vecS : Ev.Spec := guarded fun | [.i .i64 w, .sl64 l] => some (okW w && decide (l.length = (128 / w).toNat), vec (vecF w l).1 (vecF w l).2) | _ => none
def ann45v : Nat → List Nat := fun | 6 => [0, 1, 4, 5, 6, 7] | 3 => [0, 1, 4, 5, 6] | _ => []
theorem len_cons {α : Type} {l : List α} {n : Nat} (h : l.length = n + 1) : ∃ a t, l = a :: t ∧ t.length = n := by
  cases l with
  | nil => cases h
  | cons a t => exact ⟨a, t, rfl, by simpa using h⟩
theorem len_nil {α : Type} {l : List α} (h : l.length = 0) : l = [] := List.eq_nil_of_length_eq_zero h
theorem vec8 (l : List (BitVec 64)) (h : l.length = 16) : ex [(134, ofBytesS)] ann45v Tryz.f83 [.i .i64 8, .sl64 l] some = some (vec (vecF 8 l).1 (vecF 8 l).2) := by
  obtain ⟨a0, l0, rfl, h0⟩ := len_cons h
  obtain ⟨a1, l1, rfl, h1⟩ := len_cons h0
  obtain ⟨a2, l2, rfl, h2⟩ := len_cons h1
  obtain ⟨a3, l3, rfl, h3⟩ := len_cons h2
  obtain ⟨a4, l4, rfl, h4⟩ := len_cons h3
  obtain ⟨a5, l5, rfl, h5⟩ := len_cons h4
  obtain ⟨a6, l6, rfl, h6⟩ := len_cons h5
  obtain ⟨a7, l7, rfl, h7⟩ := len_cons h6
  obtain ⟨a8, l8, rfl, h8⟩ := len_cons h7
  obtain ⟨a9, l9, rfl, h9⟩ := len_cons h8
  obtain ⟨a10, l10, rfl, h10⟩ := len_cons h9
  obtain ⟨a11, l11, rfl, h11⟩ := len_cons h10
  obtain ⟨a12, l12, rfl, h12⟩ := len_cons h11
  obtain ⟨a13, l13, rfl, h13⟩ := len_cons h12
  obtain ⟨a14, l14, rfl, h14⟩ := len_cons h13
  obtain ⟨a15, l15, rfl, h15⟩ := len_cons h14
  obtain rfl := len_nil h15
  kernel_rfl
theorem vec16 (l : List (BitVec 64)) (h : l.length = 8) : ex [(134, ofBytesS)] ann45v Tryz.f83 [.i .i64 16, .sl64 l] some = some (vec (vecF 16 l).1 (vecF 16 l).2) := by
  obtain ⟨a0, l0, rfl, h0⟩ := len_cons h
  obtain ⟨a1, l1, rfl, h1⟩ := len_cons h0
  obtain ⟨a2, l2, rfl, h2⟩ := len_cons h1
  obtain ⟨a3, l3, rfl, h3⟩ := len_cons h2
  obtain ⟨a4, l4, rfl, h4⟩ := len_cons h3
  obtain ⟨a5, l5, rfl, h5⟩ := len_cons h4
  obtain ⟨a6, l6, rfl, h6⟩ := len_cons h5
  obtain ⟨a7, l7, rfl, h7⟩ := len_cons h6
  obtain rfl := len_nil h7
  kernel_rfl
theorem vec32 (l : List (BitVec 64)) (h : l.length = 4) : ex [(134, ofBytesS)] ann45v Tryz.f83 [.i .i64 32, .sl64 l] some = some (vec (vecF 32 l).1 (vecF 32 l).2) := by
  obtain ⟨a0, l0, rfl, h0⟩ := len_cons h
  obtain ⟨a1, l1, rfl, h1⟩ := len_cons h0
  obtain ⟨a2, l2, rfl, h2⟩ := len_cons h1
  obtain ⟨a3, l3, rfl, h3⟩ := len_cons h2
  obtain rfl := len_nil h3
  kernel_rfl
theorem vec64 (l : List (BitVec 64)) (h : l.length = 2) : ex [(134, ofBytesS)] ann45v Tryz.f83 [.i .i64 64, .sl64 l] some = some (vec (vecF 64 l).1 (vecF 64 l).2) := by
  obtain ⟨a0, l0, rfl, h0⟩ := len_cons h
  obtain ⟨a1, l1, rfl, h1⟩ := len_cons h0
  obtain rfl := len_nil h1
  kernel_rfl
theorem vec45 : Snd 83 vecS := by
  refine Sound.guard (execFn_sound (ann := ann45v) (TableOK.cons ofBytes27 TableOK.nil) mixed Tryz.func83 (by kernel_rfl) 50) fun ds d h => ?_
  split at h
  · rename_i w l
    simp only [Option.some.injEq, Prod.mk.injEq, Bool.and_eq_true, decide_eq_true_eq] at h
    obtain ⟨⟨h, hl⟩, rfl⟩ := h
    rcases okW_cases h with rfl | rfl | rfl | rfl
    · exact vec8 l hl
    · exact vec16 l hl
    · exact vec32 l hl
    · exact vec64 l hl
  · cases h
end Go.L23
